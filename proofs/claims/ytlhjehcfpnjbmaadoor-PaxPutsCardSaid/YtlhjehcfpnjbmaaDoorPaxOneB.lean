/- pax: one. -/
import Derived.Test.YtlhjehcfpnjbmaaDoorPaxOne
import Derived.Test.YtlhjehcfpnjbmaaDoorCut1
import Derived.Test.YtlhjehcfpnjbmaaDoorConv
namespace Go.Proofs.YtlhjehcfpnjbmaaDoor
open Go.RowKit
theorem digN_facts : ∀ (l : List UInt8) (m n : Nat), m ≤ 9 → n < 10 ^ m → m ≤ (digN l m n).1 ∧ (digN l m n).1 ≤ 9 ∧ (digN l m n).1 ≤ m + l.length ∧ (digN l m n).2 < 10 ^ (digN l m n).1
  | [], m, n, h9, hn => by simp [digN]; omega
  | c :: l, m, n, h9, hn => by
    cases h : isDig c && decide (m < 9)
    · rw [digN_stop h]; simp; omega
    · rw [digN_go h]
      have h1 : m < 9 := by simp at h; exact h.2
      have h2 : c.toNat ≤ 57 := by simp [isDig] at h; exact h.1.2
      have := digN_facts l (m + 1) (10 * n + (c.toNat - 48)) (by omega) (by rw [Nat.pow_succ]; omega)
      simp at this ⊢
      omega
theorem aggRec : AggTy Tryd.prog 33 2 := ⟨⟨_, Tryd.underlying33, rfl⟩, by kernel_rfl⟩
theorem cell_alloc {w : World} {b i : Nat} {v : Value} (hc : w.cell? ⟨b, i, none⟩ = some v) (hb : b < w.heap.size) (o : Obj) : (w.alloc o).cell? ⟨b, i, none⟩ = some v := by
  rw [← hc]
  exact World.cell?_of_block (w := w) (heap_alloc_old w o hb)
set_option maxHeartbeats 1000000 in
set_option maxRecDepth 100000 in
theorem one1_any (m : Nat) (b : Nat) (a : Option Addr) (n cap : Nat) (w : World) (hb : b < w.heap.size) (hc : w.cell? ⟨b, 0, none⟩ = some (.slice a n cap)) :
    Calls Tryd.prog 37 #[.int .i64 (m : Int), .pointer (some ⟨b, 0, none⟩)] w fun e w' => e = .returned (.tuple #[recV [] [], .int .i64 0, .int .i64 (if m = n then 4 else 5)]) ∧ Below w.heap.size w w' := by
  have hcc := cell_alloc hc hb
  have hne : w.heap.size ≠ b := by omega
  clear hc hb
  by_cases h : m = n
  · have hd : ((m : Int) == (n : Int)) = true := by rw [beq_iff_eq]; omega
    rw [if_pos h]
    clear h
    go_enter Tryd.func37, Tryd.ntmps37
    go_wp2_with fail
    exact bodyPost_ret (v := .tuple #[recV [] [], .int .i64 0, .int .i64 4]) (results_row3 (p := 3) (q := 4) (r := 5) (ty := 33) rfl (Row.new w 33 _) aggRec rfl rfl rfl rfl) rfl ⟨rfl, (Below.refl _ _).alloc (Nat.le_refl _) _⟩
  · have hd : ((m : Int) == (n : Int)) = false := by rw [beq_eq_false_iff_ne]; omega
    rw [if_neg h]
    clear h
    go_enter Tryd.func37, Tryd.ntmps37
    go_wp2_with fail
    exact bodyPost_ret (v := .tuple #[recV [] [], .int .i64 0, .int .i64 5]) (results_row3 (p := 3) (q := 4) (r := 5) (ty := 33) rfl (Row.new w 33 _) aggRec rfl rfl rfl rfl) rfl ⟨rfl, (Below.refl _ _).alloc (Nat.le_refl _) _⟩
/-- what one tells -/
def oneV : Got → Value
  | .bad e => .tuple #[recV [] [], .int .i64 0, .int .i64 (e : Int)]
  | .one k v n => .tuple #[recV k v, .int .i64 (n : Int), .int .i64 0]
set_option maxHeartbeats 2000000 in
set_option maxRecDepth 100000 in
theorem one_any (v : Value) (l : List UInt8) (N : Nat → Prop) (w : World) (hN : ∀ b, N b → b < w.heap.size) (hr : Reads w N v l) (hl : l.length ≤ 100000000) :
    Calls Tryd.prog 26 #[v] w fun e w' => e = .returned (oneV (oneP l)) ∧ Below w.heap.size w w' := by
  obtain ⟨a, cap, rfl, hcap, hmx, hsh⟩ := hr.shape
  have HSH := Keep.keep hsh
  have HR := Keep.keep (fun (wx : World) (h : Below w.heap.size w wx) => hr.below h hN)
  clear hsh
  have hmx' : cap ≤ 9223372036854775807 := by unfold maxLen at hmx; omega
  clear hmx
  obtain ⟨o, ho⟩ : ∃ o, oneP l = o := ⟨_, rfl⟩
  rw [ho]
  have HO := Keep.keep ho
  clear ho
  go_enter Tryd.func26, Tryd.ntmps26
  go_wp2_with fail
  refine calls_at (R := fun w2 => Hp NoM w w2 [rowA w.heap.size 23 #[.slice a l.length cap], rowA (w.heap.size + 1) 33 #[.string ⟨#[]⟩, .string ⟨#[]⟩]]) (((Hp.begin _ w).newRow _ _).newRow' _ _ _ _ (by simp) rfl) ?_
  intro w2 H2
  have HV := HR.out w2 H2.out.below
  refine (digits_any _ l N w2 HV).mono ?_
  rintro e w3 ⟨rfl, rfl⟩
  obtain ⟨-, hm9, hml, hnp⟩ := digN_facts l 0 0 (by omega) (by decide)
  obtain ⟨m, hm⟩ : ∃ m, (digN l 0 0).1 = m := ⟨_, rfl⟩
  obtain ⟨n, hn⟩ : ∃ n, (digN l 0 0).2 = n := ⟨_, rfl⟩
  rw [hm, hn] at hnp
  rw [hm] at hm9 hml
  unfold oneP at HO
  simp only [hm, hn] at HO ⊢
  have hn9 : n < 1000000000 := by
    have : (10:Nat) ^ m ≤ 10 ^ 9 := Nat.pow_le_pow_right (by omega) hm9
    omega
  clear hnp hm hn
  have HZ : Keep ((#[Value.string ⟨#[]⟩, .string ⟨#[]⟩] : Array Value).size = 2) := ⟨rfl⟩
  have HZ1 : Keep ((#[Value.string ⟨#[]⟩, .string ⟨#[]⟩] : Array Value).all (·.oneCell') = true) := ⟨by simp [Value.oneCell']⟩
  have HROW := Keep.keep (H2.out.row 1 rfl)
  have hc1 := (H2.out.row 0 rfl).cell (i := 0) rfl
  generalize w.heap.size + 1 = b2 at *
  have LEAF : ∀ (wx : World) (tmps : Array Value) (e : Int), Hp NoM w wx [rowA w.heap.size 23 #[.slice a l.length cap], rowA b2 33 #[.string ⟨#[]⟩, .string ⟨#[]⟩]] → tmps.getD 2 undef = .pointer (some ⟨b2, 0, none⟩) → tmps.getD 3 undef = .int .i64 0 → tmps.getD 4 undef = .int .i64 e →
      (results Tryd.f26 tmps).run Tryd.prog (wx.setRow b2 #[.string ⟨#[]⟩, .string ⟨#[]⟩]) = .ok (.tuple #[recV [] [], .int .i64 0, .int .i64 e]) (wx.setRow b2 #[.string ⟨#[]⟩, .string ⟨#[]⟩]) := by
    intro wx tmps e h p2 p3 p4
    exact results_row3 (p := 2) (q := 3) (r := 4) (ty := 33) rfl ((h.setRow 1 rfl #[.string ⟨#[]⟩, .string ⟨#[]⟩]).row 1 rfl) aggRec rfl p2 p3 p4
  have LEAF := Keep.keep LEAF
  have LB := Keep.keep (fun (wx : World) (h : Hp NoM w wx [rowA w.heap.size 23 #[.slice a l.length cap], rowA b2 33 #[.string ⟨#[]⟩, .string ⟨#[]⟩]]) => (h.setRow 1 rfl #[.string ⟨#[]⟩, .string ⟨#[]⟩]).below)
  by_cases hm0 : m = 0
  · have hmi : ((m : Int) == 0) = true := by rw [beq_iff_eq]; omega
    have ho := HO.out
    rw [if_pos (.inl hm0)] at ho
    subst ho
    clear hm0
    go_wp2_with (first | ((with_reducible refine arm_storeRow HROW.out aggRec HZ.out HZ.out HZ1.out ?_ ?_ ?_); (focus rfl); (focus rfl); simp only [Act.put]))
    refine bodyPost_ret (v := .tuple #[recV [] [], .int .i64 0, .int .i64 5]) ?_ rfl ⟨rfl, LB.out _ H2.out⟩
    exact LEAF.out _ _ 5 H2.out rfl rfl rfl
  · have hmi : ((m : Int) == 0) = false := by rw [beq_eq_false_iff_ne]; omega
    have hl0 : 0 < l.length := by omega
    obtain ⟨b, off, cap', he, -, -, hNb⟩ := H2 |> fun _ => (HR.out w2 H2.out.below).has hl0
    injection he with he1 _ he2
    subst he1 he2
    obtain ⟨c0, hc0⟩ : ∃ c0, l[0] = c0 := ⟨_, rfl⟩
    have hhead : l.head? = some c0 := by rw [← hc0, List.head?_eq_getElem?, List.getElem?_eq_getElem hl0]
    have hcell0 := (HR.out w2 H2.out.below).cell b off _ _ rfl 0 hl0
    have hcell0 : w2.cell? ⟨b, off, none⟩ = some (.int .u8 (c0.toNat : Int)) := by
      have h := hcell0
      simp only [Nat.add_zero] at h
      rw [h, ← hc0]
    rw [hhead] at HO
    clear hc0 hhead
    by_cases h48 : c0 = 48
    · have hd48 : ((c0.toNat : Int) == 48) = true := by rw [beq_iff_eq, h48]; rfl
      have ho := HO.out
      rw [if_pos (.inr (.inl (by rw [h48])))] at ho
      subst ho
      clear h48 hm0
      go_wp2_with (first | ((with_reducible refine arm_storeRow HROW.out aggRec HZ.out HZ.out HZ1.out ?_ ?_ ?_); (focus rfl); (focus rfl); simp only [Act.put]))
      refine bodyPost_ret (v := .tuple #[recV [] [], .int .i64 0, .int .i64 5]) ?_ rfl ⟨rfl, LB.out _ H2.out⟩
      exact LEAF.out _ _ 5 H2.out rfl rfl rfl
    · have hd48 : ((c0.toNat : Int) == 48) = false := by
        rw [beq_eq_false_iff_ne]
        intro e
        exact h48 (UInt8.toNat_inj.1 (by have : c0.toNat = 48 := by omega
                                         rw [this]; rfl))
      by_cases hnb : 16777216 < n
      · have hdn : decide ((16777216 : Int) < (n : Int)) = true := decide_eq_true (by omega)
        have ho := HO.out
        rw [if_pos (.inr (.inr hnb))] at ho
        subst ho
        clear h48 hm0
        go_wp2_with (first | ((with_reducible refine arm_storeRow HROW.out aggRec HZ.out HZ.out HZ1.out ?_ ?_ ?_); (focus rfl); (focus rfl); simp only [Act.put]))
        refine bodyPost_ret (v := .tuple #[recV [] [], .int .i64 0, .int .i64 5]) ?_ rfl ⟨rfl, LB.out _ H2.out⟩
        exact LEAF.out _ _ 5 H2.out rfl rfl rfl
      · have hdn : decide ((16777216 : Int) < (n : Int)) = false := decide_eq_false (by omega)
        have ho := HO.out
        rw [if_neg (by rintro (h | h | h); exact hm0 h; (injection h with h; exact h48 h); exact hnb h)] at ho
        have HO := Keep.keep ho
        clear ho h48
        have HTW := Keep.keep (twice_any n hn9 w2)
        obtain ⟨tw, htw⟩ : ∃ tw, twiceB n = tw := ⟨_, rfl⟩
        obtain ⟨big, hbig⟩ : ∃ big, decide ((16777216 : Int) < 10 * (n : Int)) = big := ⟨_, rfl⟩
        have hbigN : decide (16777216 < 10 * n) = big := by rw [← hbig]; exact decide_eq_decide.2 (by omega)
        rw [htw] at HTW HO
        have HBN := Keep.keep hbigN
        clear htw hbigN
        by_cases hml2 : m < l.length
        · have hdl : decide ((m : Int) < (l.length : Int)) = true := decide_eq_true (by omega)
          have hdl2 : ((m : Int) == (l.length : Int)) = false := by rw [beq_eq_false_iff_ne]; omega
          obtain ⟨c, hc⟩ : ∃ c, l[m] = c := ⟨_, rfl⟩
          have hcm : l[m]? = some c := by rw [List.getElem?_eq_getElem hml2, hc]
          have hcellm := (HR.out w2 H2.out.below).cell b off _ _ rfl m hml2
          rw [hc] at hcellm
          rw [hcm] at HO
          clear hc
          by_cases h32 : c = 32
          · have hd32 : ((c.toNat : Int) == 32) = true := by rw [beq_iff_eq, h32]; rfl
            have hd32b : ((c.toNat : Int) != 32) = false := by rw [bne_eq_false_iff_eq, h32]; rfl
            have H32 := Keep.keep h32
            cases tw
            · have ho := HO.out
              rw [if_neg (by simp), if_neg (by rw [h32]; simp; omega)] at ho
              have HO := Keep.keep ho
              clear ho h32
              by_cases hsm : n < m + 1 + 3
              · have hdsm : decide ((n : Int) - (m : Int) - 1 < 3) = true := decide_eq_true (by omega)
                have ho := HO.out
                rw [if_pos hsm] at ho
                subst ho
                by_cases hcap1 : cap = m + 1
                · go_wp2_with (first | (go_at_call 38; ((with_reducible refine HTW.out.mono ?_); rintro e w3 ⟨rfl, rfl⟩)) | ((with_reducible refine arm_storeRow HROW.out aggRec HZ.out HZ.out HZ1.out ?_ ?_ ?_); (focus rfl); (focus rfl); simp only [Act.put]))
                  refine bodyPost_ret (v := .tuple #[recV [] [], .int .i64 0, .int .i64 5]) ?_ rfl ⟨rfl, LB.out _ H2.out⟩
                  exact LEAF.out _ _ 5 H2.out rfl rfl rfl
                · go_wp2_with (first | (go_at_call 38; ((with_reducible refine HTW.out.mono ?_); rintro e w3 ⟨rfl, rfl⟩)) | ((with_reducible refine arm_storeRow HROW.out aggRec HZ.out HZ.out HZ1.out ?_ ?_ ?_); (focus rfl); (focus rfl); simp only [Act.put]))
                  refine bodyPost_ret (v := .tuple #[recV [] [], .int .i64 0, .int .i64 5]) ?_ rfl ⟨rfl, LB.out _ H2.out⟩
                  exact LEAF.out _ _ 5 H2.out rfl rfl rfl
              · have hdsm : decide ((n : Int) - (m : Int) - 1 < 3) = false := decide_eq_false (by omega)
                have ho := HO.out
                rw [if_neg hsm] at ho
                have HO := Keep.keep ho
                clear ho
                obtain ⟨fin, hfin⟩ : ∃ fin, n - m - 1 = fin := ⟨_, rfl⟩
                have hfi : (n : Int) - (m : Int) - 1 = (fin : Int) := by omega
                have hf3 : 3 ≤ fin := by omega
                rw [hfin] at HO
                by_cases hcap1 : cap = m + 1
                · have hlm : l.length = m + 1 := by omega
                  have hd0 : l.drop (m + 1) = [] := by rw [← hlm]; exact List.drop_length
                  have hdw : decide ((fin : Int) ≤ ((l.length - (m + 1) : Nat) : Int)) = false := decide_eq_false (by omega)
                  have ho := HO.out
                  have hwf : decide (fin ≤ ([] : List UInt8).length) = false := decide_eq_false (by simp; omega)
                  have hcq : cutEq [] = ([], none) := rfl
                  rw [hd0, hwf] at ho
                  simp only [Bool.false_eq_true, if_false, hcq] at ho
                  rw [if_pos ⟨trivial, by simp; omega, .inl trivial⟩] at ho
                  subst ho
                  have hcv := run_string_of (Reads.ofEmpty (w := w2) (N := fun _ => True) (b := b) (off := off) (cap := 0) trivial (by unfold maxLen; omega))
                  have hdw2 : decide (fin = 0) = false := decide_eq_false (by omega)
                  have HCUT := Keep.keep (cut_any 61 [] (by simp) w2)
                  rw [show cutV 61 [] = .tuple #[.string ⟨#[]⟩, .string ⟨#[]⟩, .bool false] from rfl] at HCUT
                  go_wp2_with (first | (go_at_call 38; ((with_reducible refine HTW.out.mono ?_); rintro e w3 ⟨rfl, rfl⟩)) | (go_at_call 39; ((with_reducible refine HCUT.out.mono ?_); rintro e w4 ⟨rfl, hb4⟩; have H4 := Keep.keep (H2.out.call hb4); have HROW4 := Keep.keep (H4.out.row 1 rfl); clear hb4)) | (go_at_call 23; ((with_reducible refine (HMAY.out _).mono ?_); rintro e w5 ⟨rfl, hb5⟩; have H5 := Keep.keep (H4.out.call hb5); have HROW5 := Keep.keep (H5.out.row 1 rfl); clear hb5)) | ((with_reducible refine arm_storeRow HROW5.out aggRec HZ.out HZ.out HZ1.out ?_ ?_ ?_); (focus rfl); (focus rfl); simp only [Act.put]) | ((with_reducible refine arm_storeRow HROW4.out aggRec HZ.out HZ.out HZ1.out ?_ ?_ ?_); (focus rfl); (focus rfl); simp only [Act.put]))
                  refine bodyPost_ret (v := .tuple #[recV [] [], .int .i64 0, .int .i64 4]) ?_ rfl ⟨rfl, LB.out _ H4.out⟩
                  exact LEAF.out _ _ 4 H4.out rfl rfl rfl

                · have HRA : Keep (∀ wx, Below w.heap.size w wx → Reads wx N (.slice (some ⟨b, off + (m + 1), none⟩) (l.length - (m + 1)) (cap - (m + 1))) (l.drop (m + 1))) := ⟨fun wx h => (HR.out wx h).sub (m + 1) (l.length - (m + 1)) (cap - (m + 1)) (l.drop (m + 1)) (by rw [List.take_of_length_le (by simp)]) (by simp; omega) (by omega) _ (by simp)⟩
                  by_cases hwh : fin ≤ l.length - (m + 1)
                  · have hdw : decide ((fin : Int) ≤ ((l.length - (m + 1) : Nat) : Int)) = true := decide_eq_true (by omega)
                    have hwf : decide (fin ≤ (l.drop (m + 1)).length) = true := decide_eq_true (by simp; omega)
                    have ho := HO.out
                    rw [hwf] at ho
                    simp only [if_true] at ho
                    have hcv := run_string_of ((HRA.out w2 H2.out.below).sub 0 fin (cap - (m + 1)) ((l.drop (m + 1)).take fin) (by simp) (by simp; omega) (Nat.le_refl _) fin (by simp; omega))
                    rw [Nat.add_zero] at hcv
                    have hrl : ((l.drop (m + 1)).take fin).length = fin := by simp; omega
                    have HRS := Keep.keep (fun wx (h : Below w.heap.size w wx) => (HRA.out wx h).sub 0 fin (cap - (m + 1)) ((l.drop (m + 1)).take fin) (by simp) (by simp; omega) (Nat.le_refl _) fin (by simp; omega))
                    rw [Nat.add_zero] at HRS
                    generalize (l.drop (m + 1)).take fin = rs at *
                    have hrs8 : rs.length ≤ 1000000000 := by omega
                    have HCUT := Keep.keep (cut_any 61 rs hrs8 w2)
                    have hceq : cutEq rs = cutB 61 rs := rfl
                    rw [hceq] at ho
                    clear hceq hrs8
                    have HRL := Keep.keep hrl
                    unfold cutV at HCUT
                    have HCB := Keep.keep (cutB_index 61 rs)
                    obtain ⟨key, opt, hco⟩ : ∃ key opt, cutB 61 rs = (key, opt) := ⟨_, _, rfl⟩
                    rw [hco] at HCUT HCB ho
                    simp only at ho
                    clear hco
                    have HMAY := Keep.keep (fun w' => may_any key [] w')
                    cases opt with
                    | none =>
                      have hke : rs = key := by
                        rcases HCB.out with ⟨-, h⟩ | ⟨_, _, _, h⟩
                        · injection h with h _; exact h.symm
                        · injection h with _ h; cases h
                      subst hke
                      simp only at ho
                      rw [if_neg (by simp)] at ho
                      subst ho
                      go_wp2_with (first | (go_at_call 38; ((with_reducible refine HTW.out.mono ?_); rintro e w3 ⟨rfl, rfl⟩)) | (go_at_call 39; ((with_reducible refine HCUT.out.mono ?_); rintro e w4 ⟨rfl, hb4⟩; have H4 := Keep.keep (H2.out.call hb4); have HROW4 := Keep.keep (H4.out.row 1 rfl); clear hb4)) | (go_at_call 23; ((with_reducible refine (HMAY.out _).mono ?_); rintro e w5 ⟨rfl, hb5⟩; have H5 := Keep.keep (H4.out.call hb5); have HROW5 := Keep.keep (H5.out.row 1 rfl); clear hb5); have hcl5 := (HRS.out w5 H5.out.below).cell b (off + (m + 1)) _ _ rfl (fin - 1) hf1; rw [hz9] at hcl5) | ((with_reducible refine arm_storeRow HROW5.out aggRec HZ.out HZ.out HZ1.out ?_ ?_ ?_); (focus rfl); (focus rfl); simp only [Act.put]) | ((with_reducible refine arm_storeRow HROW4.out aggRec HZ.out HZ.out HZ1.out ?_ ?_ ?_); (focus rfl); (focus rfl); simp only [Act.put]))
                      refine bodyPost_ret (v := .tuple #[recV [] [], .int .i64 0, .int .i64 5]) ?_ rfl ⟨rfl, LB.out _ H4.out⟩
                      exact LEAF.out _ _ 5 H4.out rfl rfl rfl
                    | some value =>
                      simp only at ho
                      obtain ⟨hkv, hvk⟩ : key.length + value.length + 1 = rs.length ∧ value.length < 1000000000 := by
                        rcases HCB.out with ⟨-, h⟩ | ⟨q, _, hq, h⟩
                        · injection h with _ h; cases h
                        · injection h with h1 h2; injection h2 with h2; subst h1 h2; simp; omega
                      clear HCB
                      cases hmy : mayK key
                      · rw [hmy] at HMAY
                        rw [if_pos (by simp [hmy])] at ho
                        subst ho
                        clear hmy
                        have hf1 : fin - 1 < rs.length := by omega
                        obtain ⟨z9, hz9⟩ : ∃ z9, rs[fin - 1] = z9 := ⟨_, rfl⟩
                        go_wp2_with (first | (go_at_call 38; ((with_reducible refine HTW.out.mono ?_); rintro e w3 ⟨rfl, rfl⟩)) | (go_at_call 39; ((with_reducible refine HCUT.out.mono ?_); rintro e w4 ⟨rfl, hb4⟩; have H4 := Keep.keep (H2.out.call hb4); have HROW4 := Keep.keep (H4.out.row 1 rfl); clear hb4)) | (go_at_call 23; ((with_reducible refine (HMAY.out _).mono ?_); rintro e w5 ⟨rfl, hb5⟩; have H5 := Keep.keep (H4.out.call hb5); have HROW5 := Keep.keep (H5.out.row 1 rfl); clear hb5); have hcl5 := (HRS.out w5 H5.out.below).cell b (off + (m + 1)) _ _ rfl (fin - 1) hf1; rw [hz9] at hcl5) | ((with_reducible refine arm_storeRow HROW5.out aggRec HZ.out HZ.out HZ1.out ?_ ?_ ?_); (focus rfl); (focus rfl); simp only [Act.put]) | ((with_reducible refine arm_storeRow HROW4.out aggRec HZ.out HZ.out HZ1.out ?_ ?_ ?_); (focus rfl); (focus rfl); simp only [Act.put]))
                        refine bodyPost_ret (v := .tuple #[recV [] [], .int .i64 0, .int .i64 5]) ?_ rfl ⟨rfl, LB.out _ H5.out⟩
                        exact LEAF.out _ _ 5 H5.out rfl rfl rfl
                      · rw [hmy] at HMAY
                        by_cases hL : fin < key.length + 2
                        · have hdL : decide ((fin : Int) - 2 < (key.length : Int)) = true := decide_eq_true (by omega)
                          rw [if_pos (by simp [hL])] at ho
                          subst ho
                          clear hmy
                          have hf1 : fin - 1 < rs.length := by omega
                          obtain ⟨z9, hz9⟩ : ∃ z9, rs[fin - 1] = z9 := ⟨_, rfl⟩
                          go_wp2_with (first | (go_at_call 38; ((with_reducible refine HTW.out.mono ?_); rintro e w3 ⟨rfl, rfl⟩)) | (go_at_call 39; ((with_reducible refine HCUT.out.mono ?_); rintro e w4 ⟨rfl, hb4⟩; have H4 := Keep.keep (H2.out.call hb4); have HROW4 := Keep.keep (H4.out.row 1 rfl); clear hb4)) | (go_at_call 23; ((with_reducible refine (HMAY.out _).mono ?_); rintro e w5 ⟨rfl, hb5⟩; have H5 := Keep.keep (H4.out.call hb5); have HROW5 := Keep.keep (H5.out.row 1 rfl); clear hb5); have hcl5 := (HRS.out w5 H5.out.below).cell b (off + (m + 1)) _ _ rfl (fin - 1) hf1; rw [hz9] at hcl5) | ((with_reducible refine arm_storeRow HROW5.out aggRec HZ.out HZ.out HZ1.out ?_ ?_ ?_); (focus rfl); (focus rfl); simp only [Act.put]) | ((with_reducible refine arm_storeRow HROW4.out aggRec HZ.out HZ.out HZ1.out ?_ ?_ ?_); (focus rfl); (focus rfl); simp only [Act.put]))
                          refine bodyPost_ret (v := .tuple #[recV [] [], .int .i64 0, .int .i64 5]) ?_ rfl ⟨rfl, LB.out _ H5.out⟩
                          exact LEAF.out _ _ 5 H5.out rfl rfl rfl
                        · have hdL : decide ((fin : Int) - 2 < (key.length : Int)) = false := decide_eq_false (by omega)
                          rw [if_neg (by simp [hmy, hL])] at ho
                          have hf1 : fin - 1 < rs.length := by omega
                          obtain ⟨z9, hz9⟩ : ∃ z9, rs[fin - 1] = z9 := ⟨_, rfl⟩
                          have hz9o : rs[fin - 1]? = some z9 := by rw [List.getElem?_eq_getElem hf1, hz9]
                          rw [if_neg (by simp), hz9o] at ho
                          have hfi1 : (fin : Int) - 1 = ((fin - 1 : Nat) : Int) := by omega
                          clear hmy hz9o
                          by_cases h10 : z9 = 10
                          · have hd10 : ((z9.toNat : Int) != 10) = false := by rw [bne_eq_false_iff_eq, h10]; rfl
                            rw [if_neg (by simp [h10])] at ho
                            subst ho
                            clear h10
                            have hvl : (value.length : Int) - 1 = ((value.length - 1 : Nat) : Int) := by omega
                            have hsl := run_slice_to (P := Tryd.prog) Tryd.underlying9 value .i64 (value.length - 1) (by omega)
                            obtain ⟨val', hval⟩ : ∃ val', value.take (value.length - 1) = val' := ⟨_, rfl⟩
                            rw [hval] at hsl
                            have HVAL := Keep.keep hval
                            clear hval
                            have HZN : Keep ((#[Value.string ⟨key.toArray⟩, .string ⟨val'.toArray⟩] : Array Value).size = 2) := ⟨rfl⟩
                            have HZN1 : Keep ((#[Value.string ⟨key.toArray⟩, .string ⟨val'.toArray⟩] : Array Value).all (·.oneCell') = true) := ⟨by simp [Value.oneCell']⟩
                            go_wp2_with (first | (go_at_call 38; ((with_reducible refine HTW.out.mono ?_); rintro e w3 ⟨rfl, rfl⟩)) | (go_at_call 39; ((with_reducible refine HCUT.out.mono ?_); rintro e w4 ⟨rfl, hb4⟩; have H4 := Keep.keep (H2.out.call hb4); have HROW4 := Keep.keep (H4.out.row 1 rfl); clear hb4)) | (go_at_call 23; ((with_reducible refine (HMAY.out _).mono ?_); rintro e w5 ⟨rfl, hb5⟩; have H5 := Keep.keep (H4.out.call hb5); have HROW5 := Keep.keep (H5.out.row 1 rfl); clear hb5); have hcl5 := (HRS.out w5 H5.out.below).cell b (off + (m + 1)) _ _ rfl (fin - 1) hf1; rw [hz9] at hcl5) | ((with_reducible refine arm_storeRow HROW5.out aggRec HZ.out HZN.out HZN1.out ?_ ?_ ?_); (focus rfl); (focus rfl); simp only [Act.put]))
                            refine bodyPost_ret (v := .tuple #[recV key val', .int .i64 (n : Int), .int .i64 0]) ?_ rfl ⟨by rw [← HVAL.out]; rfl, (H5.out.setRow 1 rfl _).below⟩
                            exact results_row3 (p := 2) (q := 3) (r := 4) (ty := 33) rfl ((H5.out.setRow 1 rfl _).row 1 rfl) aggRec rfl rfl rfl rfl
                          · have hd10 : ((z9.toNat : Int) != 10) = true := by
                              rw [bne_iff_ne]
                              intro e
                              exact h10 (UInt8.toNat_inj.1 (by have : z9.toNat = 10 := by omega
                                                               rw [this]; rfl))
                            rw [if_pos (by simp [h10])] at ho
                            subst ho
                            clear h10
                            go_wp2_with (first | (go_at_call 38; ((with_reducible refine HTW.out.mono ?_); rintro e w3 ⟨rfl, rfl⟩)) | (go_at_call 39; ((with_reducible refine HCUT.out.mono ?_); rintro e w4 ⟨rfl, hb4⟩; have H4 := Keep.keep (H2.out.call hb4); have HROW4 := Keep.keep (H4.out.row 1 rfl); clear hb4)) | (go_at_call 23; ((with_reducible refine (HMAY.out _).mono ?_); rintro e w5 ⟨rfl, hb5⟩; have H5 := Keep.keep (H4.out.call hb5); have HROW5 := Keep.keep (H5.out.row 1 rfl); clear hb5); have hcl5 := (HRS.out w5 H5.out.below).cell b (off + (m + 1)) _ _ rfl (fin - 1) hf1; rw [hz9] at hcl5) | ((with_reducible refine arm_storeRow HROW5.out aggRec HZ.out HZ.out HZ1.out ?_ ?_ ?_); (focus rfl); (focus rfl); simp only [Act.put]) | ((with_reducible refine arm_storeRow HROW4.out aggRec HZ.out HZ.out HZ1.out ?_ ?_ ?_); (focus rfl); (focus rfl); simp only [Act.put]))
                            refine bodyPost_ret (v := .tuple #[recV [] [], .int .i64 0, .int .i64 5]) ?_ rfl ⟨rfl, LB.out _ H5.out⟩
                            exact LEAF.out _ _ 5 H5.out rfl rfl rfl
                  · have hdw : decide ((fin : Int) ≤ ((l.length - (m + 1) : Nat) : Int)) = false := decide_eq_false (by omega)
                    have hwf : decide (fin ≤ (l.drop (m + 1)).length) = false := decide_eq_false (by simp; omega)
                    have ho := HO.out
                    rw [hwf] at ho
                    simp only [Bool.false_eq_true, if_false] at ho
                    have hcv := run_string_of (HRA.out w2 H2.out.below)
                    have hrl : (l.drop (m + 1)).length < fin := by simp; omega
                    generalize l.drop (m + 1) = rs at *
                    have hrs8 : rs.length ≤ 1000000000 := by omega
                    have HCUT := Keep.keep (cut_any 61 rs hrs8 w2)
                    have hceq : cutEq rs = cutB 61 rs := rfl
                    rw [hceq] at ho
                    clear hceq hrs8
                    have HRL := Keep.keep hrl
                    unfold cutV at HCUT
                    have HCB := Keep.keep (cutB_index 61 rs)
                    obtain ⟨key, opt, hco⟩ : ∃ key opt, cutB 61 rs = (key, opt) := ⟨_, _, rfl⟩
                    rw [hco] at HCUT HCB ho
                    simp only at ho
                    clear hco
                    have HMAY := Keep.keep (fun w' => may_any key [] w')
                    cases opt with
                    | none =>
                      have hke : rs = key := by
                        rcases HCB.out with ⟨-, h⟩ | ⟨_, _, _, h⟩
                        · injection h with h _; exact h.symm
                        · injection h with _ h; cases h
                      subst hke
                      simp only at ho
                      by_cases hL : rs.length + 2 ≤ fin
                      · have hdL : decide ((rs.length : Int) ≤ (fin : Int) - 2) = true := decide_eq_true (by omega)
                        cases hke : rs.isEmpty
                        · have hne : rs ≠ [] := by rintro rfl; cases hke
                          cases hmy : mayK rs
                          · rw [hmy] at HMAY
                            rw [if_neg (by simp [hne, hmy])] at ho
                            subst ho
                            clear hmy hne
                            go_wp2_with (first | (go_at_call 38; ((with_reducible refine HTW.out.mono ?_); rintro e w3 ⟨rfl, rfl⟩)) | (go_at_call 39; ((with_reducible refine HCUT.out.mono ?_); rintro e w4 ⟨rfl, hb4⟩; have H4 := Keep.keep (H2.out.call hb4); have HROW4 := Keep.keep (H4.out.row 1 rfl); clear hb4)) | (go_at_call 23; ((with_reducible refine (HMAY.out _).mono ?_); rintro e w5 ⟨rfl, hb5⟩; have H5 := Keep.keep (H4.out.call hb5); have HROW5 := Keep.keep (H5.out.row 1 rfl); clear hb5)) | ((with_reducible refine arm_storeRow HROW5.out aggRec HZ.out HZ.out HZ1.out ?_ ?_ ?_); (focus rfl); (focus rfl); simp only [Act.put]) | ((with_reducible refine arm_storeRow HROW4.out aggRec HZ.out HZ.out HZ1.out ?_ ?_ ?_); (focus rfl); (focus rfl); simp only [Act.put]))
                            refine bodyPost_ret (v := .tuple #[recV [] [], .int .i64 0, .int .i64 5]) ?_ rfl ⟨rfl, LB.out _ H5.out⟩
                            exact LEAF.out _ _ 5 H5.out rfl rfl rfl
                          · rw [hmy] at HMAY
                            rw [if_pos (by simp [hmy, hL])] at ho
                            subst ho
                            clear hmy hne
                            go_wp2_with (first | (go_at_call 38; ((with_reducible refine HTW.out.mono ?_); rintro e w3 ⟨rfl, rfl⟩)) | (go_at_call 39; ((with_reducible refine HCUT.out.mono ?_); rintro e w4 ⟨rfl, hb4⟩; have H4 := Keep.keep (H2.out.call hb4); have HROW4 := Keep.keep (H4.out.row 1 rfl); clear hb4)) | (go_at_call 23; ((with_reducible refine (HMAY.out _).mono ?_); rintro e w5 ⟨rfl, hb5⟩; have H5 := Keep.keep (H4.out.call hb5); have HROW5 := Keep.keep (H5.out.row 1 rfl); clear hb5)) | ((with_reducible refine arm_storeRow HROW5.out aggRec HZ.out HZ.out HZ1.out ?_ ?_ ?_); (focus rfl); (focus rfl); simp only [Act.put]) | ((with_reducible refine arm_storeRow HROW4.out aggRec HZ.out HZ.out HZ1.out ?_ ?_ ?_); (focus rfl); (focus rfl); simp only [Act.put]))
                            refine bodyPost_ret (v := .tuple #[recV [] [], .int .i64 0, .int .i64 4]) ?_ rfl ⟨rfl, LB.out _ H5.out⟩
                            exact LEAF.out _ _ 4 H5.out rfl rfl rfl
                        · have hne : rs = [] := List.isEmpty_iff.1 hke
                          rw [if_pos (by simp [hne]; omega)] at ho
                          subst ho
                          clear hne
                          go_wp2_with (first | (go_at_call 38; ((with_reducible refine HTW.out.mono ?_); rintro e w3 ⟨rfl, rfl⟩)) | (go_at_call 39; ((with_reducible refine HCUT.out.mono ?_); rintro e w4 ⟨rfl, hb4⟩; have H4 := Keep.keep (H2.out.call hb4); have HROW4 := Keep.keep (H4.out.row 1 rfl); clear hb4)) | (go_at_call 23; ((with_reducible refine (HMAY.out _).mono ?_); rintro e w5 ⟨rfl, hb5⟩; have H5 := Keep.keep (H4.out.call hb5); have HROW5 := Keep.keep (H5.out.row 1 rfl); clear hb5)) | ((with_reducible refine arm_storeRow HROW5.out aggRec HZ.out HZ.out HZ1.out ?_ ?_ ?_); (focus rfl); (focus rfl); simp only [Act.put]) | ((with_reducible refine arm_storeRow HROW4.out aggRec HZ.out HZ.out HZ1.out ?_ ?_ ?_); (focus rfl); (focus rfl); simp only [Act.put]))
                          refine bodyPost_ret (v := .tuple #[recV [] [], .int .i64 0, .int .i64 4]) ?_ rfl ⟨rfl, LB.out _ H4.out⟩
                          exact LEAF.out _ _ 4 H4.out rfl rfl rfl
                      · have hdL : decide ((rs.length : Int) ≤ (fin : Int) - 2) = false := decide_eq_false (by omega)
                        rw [if_neg (by simp [hL])] at ho
                        subst ho
                        go_wp2_with (first | (go_at_call 38; ((with_reducible refine HTW.out.mono ?_); rintro e w3 ⟨rfl, rfl⟩)) | (go_at_call 39; ((with_reducible refine HCUT.out.mono ?_); rintro e w4 ⟨rfl, hb4⟩; have H4 := Keep.keep (H2.out.call hb4); have HROW4 := Keep.keep (H4.out.row 1 rfl); clear hb4)) | (go_at_call 23; ((with_reducible refine (HMAY.out _).mono ?_); rintro e w5 ⟨rfl, hb5⟩; have H5 := Keep.keep (H4.out.call hb5); have HROW5 := Keep.keep (H5.out.row 1 rfl); clear hb5)) | ((with_reducible refine arm_storeRow HROW5.out aggRec HZ.out HZ.out HZ1.out ?_ ?_ ?_); (focus rfl); (focus rfl); simp only [Act.put]) | ((with_reducible refine arm_storeRow HROW4.out aggRec HZ.out HZ.out HZ1.out ?_ ?_ ?_); (focus rfl); (focus rfl); simp only [Act.put]))
                        refine bodyPost_ret (v := .tuple #[recV [] [], .int .i64 0, .int .i64 5]) ?_ rfl ⟨rfl, LB.out _ H4.out⟩
                        exact LEAF.out _ _ 5 H4.out rfl rfl rfl
                    | some value =>
                      simp only at ho
                      obtain ⟨hkv, hvk⟩ : key.length + value.length + 1 = rs.length ∧ value.length < 1000000000 := by
                        rcases HCB.out with ⟨-, h⟩ | ⟨q, _, hq, h⟩
                        · injection h with _ h; cases h
                        · injection h with h1 h2; injection h2 with h2; subst h1 h2; simp; omega
                      clear HCB
                      cases hmy : mayK key
                      · rw [hmy] at HMAY
                        rw [if_pos (by simp [hmy])] at ho
                        subst ho
                        clear hmy
                        go_wp2_with (first | (go_at_call 38; ((with_reducible refine HTW.out.mono ?_); rintro e w3 ⟨rfl, rfl⟩)) | (go_at_call 39; ((with_reducible refine HCUT.out.mono ?_); rintro e w4 ⟨rfl, hb4⟩; have H4 := Keep.keep (H2.out.call hb4); have HROW4 := Keep.keep (H4.out.row 1 rfl); clear hb4)) | (go_at_call 23; ((with_reducible refine (HMAY.out _).mono ?_); rintro e w5 ⟨rfl, hb5⟩; have H5 := Keep.keep (H4.out.call hb5); have HROW5 := Keep.keep (H5.out.row 1 rfl); clear hb5)) | ((with_reducible refine arm_storeRow HROW5.out aggRec HZ.out HZ.out HZ1.out ?_ ?_ ?_); (focus rfl); (focus rfl); simp only [Act.put]) | ((with_reducible refine arm_storeRow HROW4.out aggRec HZ.out HZ.out HZ1.out ?_ ?_ ?_); (focus rfl); (focus rfl); simp only [Act.put]))
                        refine bodyPost_ret (v := .tuple #[recV [] [], .int .i64 0, .int .i64 5]) ?_ rfl ⟨rfl, LB.out _ H5.out⟩
                        exact LEAF.out _ _ 5 H5.out rfl rfl rfl
                      · rw [hmy] at HMAY
                        by_cases hL : fin < key.length + 2
                        · exfalso; omega
                        · have hdL : decide ((fin : Int) - 2 < (key.length : Int)) = false := decide_eq_false (by omega)
                          rw [if_neg (by simp [hmy, hL])] at ho
                          simp only [if_true] at ho
                          subst ho
                          clear hmy
                          go_wp2_with (first | (go_at_call 38; ((with_reducible refine HTW.out.mono ?_); rintro e w3 ⟨rfl, rfl⟩)) | (go_at_call 39; ((with_reducible refine HCUT.out.mono ?_); rintro e w4 ⟨rfl, hb4⟩; have H4 := Keep.keep (H2.out.call hb4); have HROW4 := Keep.keep (H4.out.row 1 rfl); clear hb4)) | (go_at_call 23; ((with_reducible refine (HMAY.out _).mono ?_); rintro e w5 ⟨rfl, hb5⟩; have H5 := Keep.keep (H4.out.call hb5); have HROW5 := Keep.keep (H5.out.row 1 rfl); clear hb5)) | ((with_reducible refine arm_storeRow HROW5.out aggRec HZ.out HZ.out HZ1.out ?_ ?_ ?_); (focus rfl); (focus rfl); simp only [Act.put]) | ((with_reducible refine arm_storeRow HROW4.out aggRec HZ.out HZ.out HZ1.out ?_ ?_ ?_); (focus rfl); (focus rfl); simp only [Act.put]))
                          refine bodyPost_ret (v := .tuple #[recV [] [], .int .i64 0, .int .i64 4]) ?_ rfl ⟨rfl, LB.out _ H5.out⟩
                          exact LEAF.out _ _ 4 H5.out rfl rfl rfl
            · have ho := HO.out
              rw [if_pos ⟨rfl, .inr (by rw [h32])⟩] at ho
              subst ho
              clear h32
              cases big
              · go_wp2_with (first | (go_at_call 38; ((with_reducible refine HTW.out.mono ?_); rintro e w3 ⟨rfl, rfl⟩)) | ((with_reducible refine arm_storeRow HROW.out aggRec HZ.out HZ.out HZ1.out ?_ ?_ ?_); (focus rfl); (focus rfl); simp only [Act.put]))
                refine bodyPost_ret (v := .tuple #[recV [] [], .int .i64 0, .int .i64 5]) ?_ rfl ⟨rfl, LB.out _ H2.out⟩
                exact LEAF.out _ _ 5 H2.out rfl rfl rfl
              · go_wp2_with (first | (go_at_call 38; ((with_reducible refine HTW.out.mono ?_); rintro e w3 ⟨rfl, rfl⟩)) | ((with_reducible refine arm_storeRow HROW.out aggRec HZ.out HZ.out HZ1.out ?_ ?_ ?_); (focus rfl); (focus rfl); simp only [Act.put]))
                refine bodyPost_ret (v := .tuple #[recV [] [], .int .i64 0, .int .i64 5]) ?_ rfl ⟨rfl, LB.out _ H2.out⟩
                exact LEAF.out _ _ 5 H2.out rfl rfl rfl
          · have hd32 : ((c.toNat : Int) == 32) = false := by
              rw [beq_eq_false_iff_ne]
              intro e
              exact h32 (UInt8.toNat_inj.1 (by have : c.toNat = 32 := by omega
                                               rw [this]; rfl))
            have hd32b : ((c.toNat : Int) != 32) = true := by
              rw [bne_iff_ne]
              intro e
              exact h32 (UInt8.toNat_inj.1 (by have : c.toNat = 32 := by omega
                                               rw [this]; rfl))
            have HONE := Keep.keep (one1_any m w.heap.size (some ⟨b, off, none⟩) l.length cap w2 (H2.out.row 0 rfl).lt hc1)
            rw [if_neg (show ¬ m = l.length by omega)] at HONE
            have hcne : (some c ≠ some (32 : UInt8)) := fun h => h32 (by injection h)
            have ho := HO.out
            cases tw
            · clear HBN
              clear HO
              rw [if_neg (by simp)] at ho
              rw [if_pos (.inr hcne), if_neg (show ¬ m = l.length by omega)] at ho
              clear hcne h32
              subst ho
              go_wp2_with (first | (go_at_call 38; ((with_reducible refine HTW.out.mono ?_); rintro e w3 ⟨rfl, rfl⟩)) | (go_at_call 37; ((with_reducible refine HONE.out.mono ?_); rintro e w5 ⟨rfl, hb5⟩; have H5 := Keep.keep (H2.out.call hb5); have HROW5 := Keep.keep (H5.out.row 1 rfl); clear hb5)) | ((with_reducible refine arm_storeRow HROW5.out aggRec HZ.out HZ.out HZ1.out ?_ ?_ ?_); (focus rfl); (focus rfl); simp only [Act.put]))
              refine bodyPost_ret (v := .tuple #[recV [] [], .int .i64 0, .int .i64 5]) ?_ rfl ⟨rfl, LB.out _ H5.out⟩
              exact LEAF.out _ _ 5 H5.out rfl rfl rfl
            · cases big
              · have hb0 := of_decide_eq_false HBN.out
                clear HO
                rw [if_neg (by rintro ⟨_, h | h⟩; exact hb0 h; exact hcne h)] at ho
                rw [if_pos (.inr hcne), if_neg (show ¬ m = l.length by omega)] at ho
                clear hcne h32
                subst ho
                go_wp2_with (first | (go_at_call 38; ((with_reducible refine HTW.out.mono ?_); rintro e w3 ⟨rfl, rfl⟩)) | (go_at_call 37; ((with_reducible refine HONE.out.mono ?_); rintro e w5 ⟨rfl, hb5⟩; have H5 := Keep.keep (H2.out.call hb5); have HROW5 := Keep.keep (H5.out.row 1 rfl); clear hb5)) | ((with_reducible refine arm_storeRow HROW5.out aggRec HZ.out HZ.out HZ1.out ?_ ?_ ?_); (focus rfl); (focus rfl); simp only [Act.put]))
                refine bodyPost_ret (v := .tuple #[recV [] [], .int .i64 0, .int .i64 5]) ?_ rfl ⟨rfl, LB.out _ H5.out⟩
                exact LEAF.out _ _ 5 H5.out rfl rfl rfl
              · clear HO
                rw [if_pos ⟨rfl, .inl (of_decide_eq_true HBN.out)⟩] at ho
                subst ho
                go_wp2_with (first | (go_at_call 38; ((with_reducible refine HTW.out.mono ?_); rintro e w3 ⟨rfl, rfl⟩)) | ((with_reducible refine arm_storeRow HROW.out aggRec HZ.out HZ.out HZ1.out ?_ ?_ ?_); (focus rfl); (focus rfl); simp only [Act.put]))
                refine bodyPost_ret (v := .tuple #[recV [] [], .int .i64 0, .int .i64 5]) ?_ rfl ⟨rfl, LB.out _ H2.out⟩
                exact LEAF.out _ _ 5 H2.out rfl rfl rfl
        · have hme : m = l.length := by omega
          have hdl : decide ((m : Int) < (l.length : Int)) = false := decide_eq_false (by omega)
          have hdl2 : ((m : Int) == (l.length : Int)) = true := by rw [beq_iff_eq]; omega
          have hcm : l[m]? = none := List.getElem?_eq_none (by omega)
          rw [hcm] at HO
          have HONE := Keep.keep (one1_any m w.heap.size (some ⟨b, off, none⟩) l.length cap w2 (H2.out.row 0 rfl).lt hc1)
          rw [if_pos hme] at HONE
          have ho := HO.out
          cases tw
          · clear HBN
            clear HO
            rw [if_neg (by simp)] at ho
            rw [if_pos (.inl hme), if_pos hme] at ho
            clear hme
            subst ho
            go_wp2_with (first | (go_at_call 38; ((with_reducible refine HTW.out.mono ?_); rintro e w3 ⟨rfl, rfl⟩)) | (go_at_call 37; ((with_reducible refine HONE.out.mono ?_); rintro e w5 ⟨rfl, hb5⟩; have H5 := Keep.keep (H2.out.call hb5); have HROW5 := Keep.keep (H5.out.row 1 rfl); clear hb5)) | ((with_reducible refine arm_storeRow HROW5.out aggRec HZ.out HZ.out HZ1.out ?_ ?_ ?_); (focus rfl); (focus rfl); simp only [Act.put]))
            refine bodyPost_ret (v := .tuple #[recV [] [], .int .i64 0, .int .i64 4]) ?_ rfl ⟨rfl, LB.out _ H5.out⟩
            exact LEAF.out _ _ 4 H5.out rfl rfl rfl
          · cases big
            · have hb0 := of_decide_eq_false HBN.out
              clear HO
              rw [if_neg (by rintro ⟨_, h | h⟩; exact hb0 h; cases h)] at ho
              rw [if_pos (.inl hme), if_pos hme] at ho
              clear hme
              subst ho
              go_wp2_with (first | (go_at_call 38; ((with_reducible refine HTW.out.mono ?_); rintro e w3 ⟨rfl, rfl⟩)) | (go_at_call 37; ((with_reducible refine HONE.out.mono ?_); rintro e w5 ⟨rfl, hb5⟩; have H5 := Keep.keep (H2.out.call hb5); have HROW5 := Keep.keep (H5.out.row 1 rfl); clear hb5)) | ((with_reducible refine arm_storeRow HROW5.out aggRec HZ.out HZ.out HZ1.out ?_ ?_ ?_); (focus rfl); (focus rfl); simp only [Act.put]))
              refine bodyPost_ret (v := .tuple #[recV [] [], .int .i64 0, .int .i64 4]) ?_ rfl ⟨rfl, LB.out _ H5.out⟩
              exact LEAF.out _ _ 4 H5.out rfl rfl rfl
            · clear HO
              rw [if_pos ⟨rfl, .inl (of_decide_eq_true HBN.out)⟩] at ho
              clear hme
              subst ho
              go_wp2_with (first | (go_at_call 38; ((with_reducible refine HTW.out.mono ?_); rintro e w3 ⟨rfl, rfl⟩)) | ((with_reducible refine arm_storeRow HROW.out aggRec HZ.out HZ.out HZ1.out ?_ ?_ ?_); (focus rfl); (focus rfl); simp only [Act.put]))
              refine bodyPost_ret (v := .tuple #[recV [] [], .int .i64 0, .int .i64 5]) ?_ rfl ⟨rfl, LB.out _ H2.out⟩
              exact LEAF.out _ _ 5 H2.out rfl rfl rfl
end Go.Proofs.YtlhjehcfpnjbmaaDoor
