/- THE REFERENCE's Sum: digest. -/
import Derived.Test.YtofficleahalaaaDoorShaRef
import Derived.Test.YtofficleahalaaaDoorShaSum
import Derived.Test.YtofficleahalaaaDoorQRow
import Derived.Test.YtofficleahalaaaDoorHp
namespace Go.Proofs.YtofficleahalaaaDoor
open Go.RowKit
theorem agg32 : AggTy Tryd.prog 24 32 := ⟨⟨_, Tryd.underlying24, rfl⟩, by kernel_rfl⟩
/-- the last i bytes of the tail are laid -/
def tcur (n i : Nat) : Array Value := (bcells (List.replicate (8 - i) 0 ++ (lenB n).drop (8 - i))).toArray
theorem tcur_zero (n : Nat) : tcur n 0 = (bcells (List.replicate 8 0)).toArray := by
  unfold tcur; rw [List.drop_eq_nil_of_le (by rw [lenB_length]; omega), List.append_nil]
theorem tcur_all (n : Nat) : tcur n 8 = (bcells (lenB n)).toArray := by simp [tcur]
theorem tcur_size (n i : Nat) (hi : i ≤ 8) : (tcur n i).size = 8 := by simp [tcur, bcells_length, lenB_length]; try omega
theorem tcur_step (n i : Nat) (hi : i < 8) : (tcur n i).setIfInBounds (7 - i) (.int .u8 ((n * 8 / 2 ^ (8 * i) % 256 : Nat) : Int)) = tcur n (i + 1) := by
  have hl := lenB_length n
  have e1 : (lenB n).drop (8 - (i + 1)) = [UInt8.ofNat (n * 8 / 2 ^ (8 * i) % 256)] ++ (lenB n).drop (8 - i) := by
    rw [List.drop_eq_getElem_cons (by omega), show 8 - (i + 1) + 1 = 8 - i by omega, List.singleton_append]
    congr 1
    simp only [lenB, List.getElem_map, List.getElem_range]
    rw [show 7 - (8 - (i + 1)) = i by omega]
  have e2 : List.replicate (8 - i) (0 : UInt8) = List.replicate (8 - (i + 1)) 0 ++ [0] := by rw [show 8 - i = (8 - (i + 1)) + 1 by omega, List.replicate_succ']
  have el : (bcells (List.replicate (8 - (i + 1)) (0 : UInt8))).length = 7 - i := by rw [bcells_length, List.length_replicate]; omega
  rw [byte_of]
  unfold tcur
  simp only [e1, e2, List.append_assoc, bcells_append, List.setIfInBounds_toArray]
  rw [List.set_append_right _ _ (by omega), el, Nat.sub_self]
  rfl
theorem div_step (n i : Nat) : n * 8 / 2 ^ (8 * i) / 256 = n * 8 / 2 ^ (8 * (i + 1)) := by
  rw [Nat.div_div_eq_div_mul, show 8 * (i + 1) = 8 * i + 8 by omega, Nat.pow_add]
theorem dcur_step2 (h : List Nat) (i j : Nat) (hi : i < 8) (hj : j < 4) : (dcur h (4 * i + j)).setIfInBounds (4 * i + j) (.int .u8 ((h.getD i 0 / 2 ^ (24 - 8 * j) % 256 : Nat) : Int)) = dcur h (4 * i + j + 1) := by
  have := dcur_step h (4 * i + j) (by omega)
  rwa [show (4 * i + j) / 4 = i by omega, show (4 * i + j) % 4 = j by omega] at this
theorem bcells_zeros (n : Nat) : (bcells (List.replicate n 0)).toArray = Array.replicate n (.int .u8 0) := by simp [bcells]
set_option maxHeartbeats 1000000 in
set_option maxRecDepth 100000 in
theorem rsum_any (v : Value) (l : List UInt8) (w : World) (hv : Reads w (· < w.heap.size) v l) (hlen : l.length ≤ 140737488355000) :
    Calls Tryd.prog 10 #[v] w fun e w' => e = .returned (.agg (bcells (digest l)).toArray) ∧ Below w.heap.size w w' := by
  obtain ⟨a, cap, hu, h1, h2, h3⟩ := hv.shape
  have HV := Keep.keep hv; clear hv
  subst hu
  unfold maxLen at h2
  generalize hn : l.length = n at *
  have HN := Keep.keep hn; clear hn
  go_enter Tryd.func10, Tryd.ntmps10
  go_wp2_with (with_reducible refine arm_stop ?_)
  refine Stopped.out ?_
  refine wpList_world (R := fun w2 => Hp NoM w w2 [rowA w.heap.size 24 zeros32, byA w.heap.size 5 (.slice none 0 0) []]) (((Hp.begin _ w).newRow' _ _ _ _ rfl rfl).nilB _ _) ?_
  intro w2 HH
  refine arm_append slB (HH.out.bs 1 rfl) (HH.out.reads HV.out (fun b hb => ⟨hb, fun h => h⟩)) (by simp [HN.out]; omega) HH.out.size rfl rfl ?_
  intro v3 w3 ho3 hg3 hb3
  have hh3 := HH.out.growB 1 rfl hg3 ho3 hb3
  have HH3 := Keep.keep hh3; clear hh3 ho3 hg3 hb3
  simp only [Act.put, List.setIfInBounds_toArray, List.set_cons_succ, List.set_cons_zero]
  go_wp2_with (with_reducible refine arm_stop ?_)
  refine Stopped.out ?_
  refine arm_append slB ((HH3.out.alloc _).bs 1 rfl) (Reads.one w3 _ _ 128 rfl _ rfl) (by simp [HN.out]; omega) (HH3.out.alloc _).size rfl rfl ?_
  intro v4 w4 ho4 hg4 hb4
  have hh4 := (HH3.out.alloc _).growB 1 rfl hg4 ho4 hb4
  have HH4 := Keep.keep hh4; clear hh4 ho4 hg4 hb4
  simp only [Act.put, List.setIfInBounds_toArray, List.set_cons_succ, List.set_cons_zero]
  go_wp2_with fail
  go_loopw [3] (fun t wr => ∃ j : Nat, j ≤ noughts n ∧ Hp NoM w wr [rowA w.heap.size 24 zeros32, byA w.heap.size 5 t (l ++ [128] ++ List.replicate j 0)]) (fun t _ => n + 200 - lenV t)
  case atStart => exact ⟨0, Nat.zero_le _, by simpa using HH4.out⟩
  case round =>
    obtain ⟨j, hj, hs⟩ := hrel
    obtain ⟨at_, ct, hu, hcap, hmax, _⟩ := (hs.bs 1 rfl).reads.shape
    have hlen2 : (l ++ [128] ++ List.replicate j 0).length = n + 1 + j := by simp [HN.out]; omega
    rw [hlen2] at hu hcap
    have hno : noughts n = (119 - n % 64) % 64 := rfl
    unfold maxLen at hmax
    subst hu
    have HS := Keep.keep hs; have HNO := Keep.keep hno
    rw [hno] at hj
    clear hs hno
    have HL2 := Keep.keep hlen2; clear hlen2
    have hr64 : n % 64 < 64 := Nat.mod_lt _ (by decide)
    generalize hrr : n % 64 = r at *
    have HRR := Keep.keep hrr
    by_cases hjz : j < (119 - r) % 64
    · have hne : ¬ ((n + 1 + j) % 64 = 56) := by omega
      clear hrr
      obtain ⟨m, hm⟩ : ∃ m, m = n + 1 + j := ⟨_, rfl⟩
      rw [← hm] at hne hcap HS ⊢
      have hml : m < n + 128 := by omega
      have HM := Keep.keep hm; clear hm
      go_wp2_with (with_reducible refine arm_stop ?_)
      refine Stopped.out ?_
      refine arm_append slB ((HS.out.alloc _).bs 1 rfl) (Reads.one wr _ _ 0 rfl _ rfl) (by rw [HL2.out]; simp; omega) (HS.out.alloc _).size rfl rfl ?_
      intro v5 w5 ho5 hg5 hb5
      obtain ⟨a5, c5, hv5, _⟩ := ho5.reads.shape
      have hh5 := (HS.out.alloc _).growB 1 rfl hg5 ho5 hb5
      have HH5 := Keep.keep hh5; clear hh5 ho5 hg5 hb5
      subst hv5
      simp only [Act.put, List.setIfInBounds_toArray, List.set_cons_succ, List.set_cons_zero]
      go_wp2_with fail
      have e8 : l ++ [128] ++ List.replicate j 0 ++ [0] = l ++ [128] ++ List.replicate (j + 1) 0 := by rw [List.append_assoc, List.replicate_succ']
      have e9 : (l ++ [128] ++ List.replicate j 0 ++ [0]).length = m + 1 := by rw [List.length_append, HL2.out, HM.out]; simp
      refine ⟨⟨j + 1, by rw [HNO.out]; omega, by rw [← e8]; exact HH5.out⟩, ?_⟩
      rw [e9]; simp only [lenV]; omega
    · have hjz : j = (119 - r) % 64 := by omega
      obtain ⟨m, hm⟩ : ∃ m, m = n + 1 + j := ⟨_, rfl⟩
      have h56 : (m : Int) % 64 = 56 := by omega
      clear hrr
      rw [← hm] at hcap HS ⊢
      have hml : m < n + 128 := by omega
      have HM := Keep.keep hm; clear hm
      generalize htt : l ++ [128] ++ List.replicate j 0 = tt at HS HL2
      have HTT := Keep.keep htt; clear htt
      have HJ := Keep.keep hjz; clear hjz
      have h8n : 8 * n < 18446744073709551616 := by omega
      go_wp2_with fail
      refine wp_world (R := fun w2 => Hp NoM w w2 [rowA w.heap.size 24 zeros32, byA w.heap.size 5 (.slice at_ m ct) tt, rowA wr.heap.size 57 (tcur n 0)]) (HS.out.newRow' 57 _ _ _ rfl (by rw [tcur_zero]; rfl)) ?_
      intro w6 HH6
      generalize wr.heap.size = T at *
      go_loopw [4, 6] (fun t u wr => ∃ i : Nat, i ≤ 8 ∧ t = .int .u64 ((n * 8 / 2 ^ (8 * i) : Nat) : Int) ∧ u = .int .i64 (7 - (i : Int)) ∧ Hp NoM w wr [rowA w.heap.size 24 zeros32, byA w.heap.size 5 (.slice at_ m ct) tt, rowA T 57 (tcur n i)]) (fun _ u _ => (intOf u + 1).toNat)
      case atStart => exact ⟨0, by omega, by simp, rfl, HH6.out⟩
      case round =>
        obtain ⟨i, hi, rfl, rfl, hs⟩ := hrel
        have HS8 := Keep.keep hs; clear hs
        by_cases hi8 : i < 8
        · obtain ⟨q, hq⟩ : ∃ q : Nat, q + i = 7 := ⟨7 - i, by omega⟩
          have e7 : (7 - (i : Int)) = (q : Int) := by omega
          rw [e7]
          have hq8 : q < 8 := by omega
          have hcell := (HS8.out.row 2 rfl).cell (i := q) (Array.getElem?_eq_getElem (by rw [tcur_size _ _ hi]; exact hq8))
          have hfr := (HS8.out.row 2 rfl).frozen q
          generalize (tcur n i)[q]'(by rw [tcur_size _ _ hi]; exact hq8) = old at hcell
          have hst := HS8.out.setCell (c' := tcur n (i + 1)) 2 rfl q (.int .u8 ((n * 8 / 2 ^ (8 * i) % 256 : Nat) : Int)) (by rw [show q = 7 - i by omega]; exact tcur_step n i hi8)
          have hlt : n * 8 / 2 ^ (8 * i) < 18446744073709551616 := Nat.lt_of_le_of_lt (Nat.div_le_self _ _) (by omega)
          have hdv := div_step n i
          have HST := Keep.keep hst; have HDV := Keep.keep hdv; have HQ := Keep.keep hq
          clear hst hdv hq e7
          generalize n * 8 / 2 ^ (8 * i) = x at *
          go_wp2
          refine ⟨⟨i + 1, by omega, ?_, ?_, ?_⟩, by simp [intOf]⟩
          · rw [← HDV.out]; simp
          · exact congrArg (Value.int .i64) (by have := HQ.out; omega)
          · have e : ((x : Int) % 256) = ((x % 256 : Nat) : Int) := by omega
            rw [e]; exact HST.out
        · have e1 : (7 - (i : Int)) = -1 := by omega
          rw [e1]
          obtain rfl : i = 8 := by omega
          have hall := HS8.out
          have ett : tt ++ lenB n = l ++ pad n := by
            rw [← HTT.out, HJ.out, pad]; simp [noughts, HRR.out]
          have hT := HS8.out.row 2 rfl
          rw [tcur_all] at hT
          have hrT : Reads wr (· < wr.heap.size) (.slice (some ⟨T, 0, none⟩) 8 8) (lenB n) := by
            refine RdV.toBytes ?_
            rw [lenB_length]
            exact RdV.ofRow hT hT.lt 1 0 8 8 _ (by simp [bcells_length, lenB_length]) (Nat.le_refl _) (by decide) (fun j u hu => by rw [Nat.zero_add]; simpa using hu)
          have HRT := Keep.keep hrT; clear hrT hT
          have HALL := Keep.keep hall; clear hall
          go_wp2_with (with_reducible refine arm_stop ?_)
          refine Stopped.out ?_
          refine arm_append slB (HALL.out.bs 1 rfl) HRT.out (by rw [HL2.out, lenB_length]; omega) HALL.out.size rfl rfl ?_
          intro v7 w7 ho7 hg7 hb7
          obtain ⟨a7, c7, hv7, hcap7, hmax7, _⟩ := ho7.reads.shape
          have hh7 := HALL.out.growB 1 rfl hg7 ho7 hb7
          rw [ett] at hh7 hv7 hcap7
          have hmod := padded l
          rw [HN.out] at hmod
          generalize hmm : l ++ pad n = mm at hh7 hv7 hcap7 hmod
          have HMM := Keep.keep hmm; clear hmm
          generalize hml7 : mm.length = z at hv7 hcap7 hmod
          have HZ := Keep.keep hml7; clear hml7
          unfold maxLen at hmax7
          obtain ⟨q, hq⟩ : ∃ q, z = 64 * q := ⟨z / 64, by omega⟩
          have hq1 : z ≤ 64 * q := by omega
          have hq2 : 64 * q ≤ z := by omega
          have HQ := Keep.keep hq; clear hq
          have HH7 := Keep.keep hh7; clear hh7 ho7 hg7 hb7 ett
          subst hv7
          have h1c : (words Ks).all (·.oneCell') = true := by simp [words, Value.oneCell']
          have hsz : (words Ks).size = 64 := rfl
          have h1h : (words H0s).all (·.oneCell') = true := by simp [words, Value.oneCell']
          have hsh : (words H0s).size = 8 := rfl
          have H1C := Keep.keep h1c; have HSZ := Keep.keep hsz; have H1H := Keep.keep h1h; have HSH := Keep.keep hsh
          clear h1c hsz h1h hsh hmod
          simp only [Act.put, List.setIfInBounds_toArray, List.set_cons_succ, List.set_cons_zero]
          generalize hks : words Ks = ks at HSZ H1C
          have HKS := Keep.keep hks; clear hks
          go_wp2_with (first
            | (go_at_call 29; ((with_reducible refine (consts_any _).mono ?_); rintro e' w8 ⟨rfl, hb8⟩; rw [HKS.out]; have HB8 := Keep.keep hb8; clear hb8))
            | ((with_reducible refine arm_storeRow (Row.new w8 58 _) agg64 ?_ HSZ.out H1C.out ?_ ?_ ?_); (focus rfl); (focus rfl); (focus rfl); simp only [Act.put, World.setRow_alloc_new]))
          refine wp_world (R := fun w2 => Hp NoM w w2 [rowA w.heap.size 24 zeros32, byA w.heap.size 5 (.slice a7 z c7) mm, rowA T 57 (bcells (lenB n)).toArray, rowA w8.heap.size 58 ks, rowA (w8.heap.size + 1) 49 (words H0s)]) ?_ ?_
          · rw [← tcur_all]
            exact ((HH7.out.call HB8.out).newRow 58 ks).newRow' 49 _ _ _ (by simp) rfl
          intro w9 HH9
          generalize w8.heap.size = K at *
          obtain ⟨KH, hKH⟩ : ∃ x, x = K + 1 := ⟨_, rfl⟩
          rw [← hKH] at HH9 ⊢
          clear e1 hi hi8 hKH
          obtain ⟨b7, off7, ha7⟩ : ∃ b off, 0 < z → a7 = some ⟨b, off, none⟩ := by
            by_cases hz0 : 0 < z
            · obtain ⟨b, off, cap', e, _⟩ := (HH9.out.bs 1 rfl).reads.has (by rw [HZ.out]; exact hz0)
              injection e with e _ _
              exact ⟨b, off, fun _ => e⟩
            · exact ⟨0, 0, fun h => absurd h hz0⟩
          go_loopw [9] (fun t wr => ∃ k : Nat, k ≤ q ∧ t = .int .i64 ((64 * k : Nat) : Int) ∧ Hp NoM w wr [rowA w.heap.size 24 zeros32, byA w.heap.size 5 (.slice a7 z c7) mm, rowA T 57 (bcells (lenB n)).toArray, rowA K 58 ks, rowA KH 49 (words (feed H0s mm k))]) (fun t _ => z - (intOf t).toNat)
          case atStart => exact ⟨0, Nat.zero_le _, rfl, HH9.out⟩
          case round =>
            obtain ⟨k, hk, rfl, hs⟩ := hrel
            have HS9 := Keep.keep hs; clear hs
            by_cases hkq : k < q
            · obtain rfl := ha7 (by omega)
              obtain ⟨p, hp⟩ : ∃ p, p = 64 * k := ⟨_, rfl⟩
              rw [← hp]
              have hp1 : p + 64 ≤ z := by omega
              have hp2 : p < c7 := by omega
              have hrd : Reads wr (· < wr.heap.size) (.slice (some ⟨b7, off7 + p, none⟩) 64 (c7 - p)) ((mm.drop p).take 64) := by
                have h0 := (HS9.out.bs 1 rfl).reads
                exact (h0.sub p 64 (c7 - p) _ rfl (by simp [HZ.out]; omega) (by omega) 64 (by simp [HZ.out]; omega)).mono (fun b hb => hb.2.1)
              have hl64 : ((mm.drop p).take 64).length = 64 := by simp [HZ.out]; omega
              have hct : ∀ m', Calls Tryd.prog 30 #[.agg (words (feed H0s mm k)), .slice (some ⟨b7, off7 + p, none⟩) 64 (c7 - p), .agg (words Ks)] (wr.drewN m') fun e w' => e = .returned (.agg (words (feed H0s mm (k + 1)))) ∧ Below wr.heap.size wr w' := by
                intro m'
                have := block_any _ _ (feed H0s mm k) (wr.drewN m') (hrd.drewN m') hl64 (ok8_feed H0s_ok mm k)
                rw [show feed H0s mm (k + 1) = compress (feed H0s mm k) ((mm.drop p).take 64) by rw [feed, hp]]
                refine this.mono ?_
                rintro e w' ⟨he, hb⟩
                exact ⟨he, (below_drewN' (Below.refl _ _) m').trans hb⟩
              rw [HKS.out] at hct
              have hsk : (words (feed H0s mm k)).size = 8 := by simp [words, (ok8_feed H0s_ok mm k).len]
              have hsk1 : (words (feed H0s mm (k + 1))).size = 8 := by simp [words, (ok8_feed H0s_ok mm (k + 1)).len]
              have h1k1 : (words (feed H0s mm (k + 1))).all (·.oneCell') = true := by simp [words, Value.oneCell']
              have HCT := Keep.keep hct; have HSK := Keep.keep hsk; have HSK1 := Keep.keep hsk1; have H1K1 := Keep.keep h1k1
              have HP := Keep.keep hp
              clear hp hrd hl64 hct hsk hsk1 h1k1
              generalize hfk : words (feed H0s mm k) = fk at *
              generalize hfk1 : words (feed H0s mm (k + 1)) = fk1 at *
              have HFK1 := Keep.keep hfk1; clear hfk hfk1
              go_wp2_with fail
              refine wp_region_quiet_tail_drawn 7 (by kernel_rfl) (by kernel_rfl) ?_
              simp only [List.take_succ_cons, List.take_zero, List.drop_succ_cons, List.drop_zero]
              refine quiet_loadRow (fun w' hw' => by obtain ⟨m', rfl⟩ := hw'; exact (HS9.out.row 4 rfl).drewN m') agg8 HSK.out rfl ?_
              simp only [Act.put, List.setIfInBounds_toArray, List.set_cons_succ, List.set_cons_zero]
              iterate 5 (go_big_quiet_step (fail))
              refine quiet_loadRow (fun w' hw' => by obtain ⟨m', rfl⟩ := hw'; exact (HS9.out.row 3 rfl).drewN m') agg64 HSZ.out rfl ?_
              simp only [Act.put, List.setIfInBounds_toArray, List.set_cons_succ, List.set_cons_zero]
              refine wpQuiet_nil ?_
              rintro _ ⟨nq, rfl⟩
              go_wp2_with (first
                | (go_at_call 30; ((with_reducible refine (HCT.out _).mono ?_); rintro e' w10 ⟨rfl, hb10⟩; have HB10 := Keep.keep hb10; clear hb10))
                | ((with_reducible refine arm_storeRow ((HS9.out.call HB10.out).row 4 rfl) agg8 HSK.out HSK1.out H1K1.out ?_ ?_ ?_); (focus rfl); (focus rfl); simp only [Act.put]))
              refine ⟨⟨k + 1, by omega, ?_, ?_⟩, by simp [intOf]; omega⟩
              · exact congrArg (Value.int .i64) (by have := HP.out; omega)
              · rw [HFK1.out]
                exact (HS9.out.call HB10.out).setRow 4 rfl fk1
            · obtain rfl : k = q := by omega
              have hz2 : ((64 * k : Nat) : Int) = (z : Int) := by omega
              rw [hz2]
              have hdg : digest l = outB (feed H0s mm k) := by
                have : fed mm = feed H0s mm k := by rw [fed, HZ.out, HQ.out, Nat.mul_div_cancel_left _ (by decide)]
                rw [digest, HN.out, HMM.out, this]
              have hH8 : (feed H0s mm k).length = 8 := (ok8_feed H0s_ok mm k).len
              have HDG := Keep.keep hdg; have HH8 := Keep.keep hH8
              clear hz2 hdg hH8 hkq hk hq1 hq2
              generalize feed H0s mm k = H at *
              go_wp2_with fail
              refine wp_world (R := fun w2 => Hp NoM w w2 [rowA w.heap.size 24 zeros32, byA w.heap.size 5 (.slice a7 z c7) mm, rowA T 57 (bcells (lenB n)).toArray, rowA K 58 ks, rowA KH 49 (words H), rowA wr.heap.size 24 (dcur H (4 * 0))]) (HS9.out.newRow' _ _ _ _ rfl (by rw [Nat.mul_zero, dcur_zero]; rfl)) ?_
              intro w11 HH11
              generalize wr.heap.size = D at *
              go_loopw [11] (fun t wr => ∃ i : Nat, i ≤ 8 ∧ t = .int .i64 i ∧ Hp NoM w wr [rowA w.heap.size 24 zeros32, byA w.heap.size 5 (.slice a7 z c7) mm, rowA T 57 (bcells (lenB n)).toArray, rowA K 58 ks, rowA KH 49 (words H), rowA D 24 (dcur H (4 * i))]) (fun t _ => 8 - (intOf t).toNat)
              case atStart => exact ⟨0, by omega, rfl, HH11.out⟩
              case round =>
                obtain ⟨i, hi, rfl, hs⟩ := hrel
                have HS12 := Keep.keep hs; clear hs
                by_cases hi8 : i < 8
                · go_wp2_with fail
                  go_loopw [12] (fun t wr => ∃ j : Nat, j ≤ 4 ∧ t = .int .i64 j ∧ Hp NoM w wr [rowA w.heap.size 24 zeros32, byA w.heap.size 5 (.slice a7 z c7) mm, rowA T 57 (bcells (lenB n)).toArray, rowA K 58 ks, rowA KH 49 (words H), rowA D 24 (dcur H (4 * i + j))]) (fun t _ => 4 - (intOf t).toNat)
                  case atStart => exact ⟨0, by omega, rfl, HS12.out⟩
                  case round =>
                    obtain ⟨jj, hjj, rfl, hs⟩ := hrel
                    have HS13 := Keep.keep hs; clear hs
                    by_cases hj4 : jj < 4
                    · have hcc := (HS13.out.row 4 rfl).cell (words_getD H i (by rw [HH8.out]; exact hi8))
                      have hdd := (HS13.out.row 5 rfl).cell (i := 4 * i + jj) (Array.getElem?_eq_getElem (by rw [dcur_size _ _ (by omega)]; omega))
                      have hff := (HS13.out.row 5 rfl).frozen (4 * i + jj)
                      have hst := HS13.out.setCell (c' := dcur H (4 * i + jj + 1)) 5 rfl (4 * i + jj) _ (dcur_step2 H i jj hi8 hj4)
                      generalize hxx : H.getD i 0 = x at hcc hst
                      have HST := Keep.keep hst; clear hst hxx
                      generalize (dcur H (4 * i + jj))[4 * i + jj]'(by rw [dcur_size _ _ (by omega)]; omega) = old at hdd
                      have hsh : (0 : Int) ≤ 24 - 8 * (jj : Int) := by omega
                      go_wp2
                      refine ⟨⟨jj + 1, by omega, by go_num, ?_⟩, by simp [intOf]; omega⟩
                      have e : ((x : Int) / 2 ^ (24 - 8 * jj) % 256) = ((x / 2 ^ (24 - 8 * jj) % 256 : Nat) : Int) := by simp
                      rw [e]
                      exact HST.out
                    · obtain rfl : jj = 4 := by omega
                      go_wp2
                      refine ⟨⟨i + 1, by omega, by go_num, HS13.out⟩, by simp [intOf]; omega⟩
                · obtain rfl : i = 8 := by omega
                  have hd := HS12.out.row 5 rfl
                  rw [show 4 * 8 = 32 from rfl, dcur_all] at hd
                  have hz : zeros32.size = 32 := by simp [zeros32, bcells]
                  have hc32 : (bcells (outB H)).toArray.size = 32 := by simp [bcells, outB_length]
                  have h1c : (bcells (outB H)).toArray.all (·.oneCell') = true := all_oneCell_toArray (bcells_one _)
                  have HDD := Keep.keep hd; have HZ0 := Keep.keep hz; have HC32 := Keep.keep hc32; have H1C2 := Keep.keep h1c
                  have HRS := Keep.keep (HS12.out.setRow 0 rfl (bcells (outB H)).toArray)
                  have HR0 := Keep.keep (HS12.out.row 0 rfl)
                  clear hd hz hc32 h1c
                  generalize hcs : (bcells (outB H)).toArray = cs at HDD HC32 H1C2 HRS
                  have HCS := Keep.keep hcs; clear hcs
                  go_wp2_with (first | ((with_reducible refine arm_loadRow HDD.out agg32 HC32.out ?_ ?_); (focus rfl); simp only [Act.put, List.setIfInBounds_toArray, List.set_cons_succ, List.set_cons_zero]) | ((with_reducible refine arm_storeRow HR0.out agg32 HZ0.out HC32.out H1C2.out ?_ ?_ ?_); (focus rfl); (focus rfl); simp only [Act.put]))
                  refine bodyPost_ret (v := .agg cs) ?_ rfl ⟨by rw [HDG.out, HCS.out], HRS.out.below⟩
                  exact results_row (p := 2) (ty := 24) rfl (HRS.out.row 0 rfl) agg32 HC32.out rfl
end Go.Proofs.YtofficleahalaaaDoor
