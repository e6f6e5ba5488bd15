/- State.Sum is the digest of all that was taken. -/
import Derived.Test.YtofficleahalaaaDoorShaWrite
namespace Go.Proofs.YtofficleahalaaaDoor
open Go.RowKit
theorem aggDig : AggTy Tryd.prog 25 32 := ⟨⟨_, Tryd.underlying25, rfl⟩, by kernel_rfl⟩
def zeros32 : Array Value := (bcells (List.replicate 32 0)).toArray
def dcur (h : List Nat) (i : Nat) : Array Value := (bcells ((outB h).take i ++ List.replicate (32 - i) 0)).toArray
theorem dcur_zero (h : List Nat) : dcur h 0 = zeros32 := by simp [dcur, zeros32]
theorem dcur_all (h : List Nat) : dcur h 32 = (bcells (outB h)).toArray := by simp [dcur, List.take_of_length_le, outB_length]
theorem dcur_size (h : List Nat) (i : Nat) (hi : i ≤ 32) : (dcur h i).size = 32 := by simp [dcur, bcells_length, outB_length]; omega
theorem outB_getElem (h : List Nat) (i : Nat) (hi : i < (outB h).length) : (outB h)[i] = UInt8.ofNat (h.getD (i / 4) 0 / 2 ^ (24 - 8 * (i % 4)) % 256) := by simp [outB]
theorem dcur_step (h : List Nat) (i : Nat) (hi : i < 32) : (dcur h i).setIfInBounds i (.int .u8 ((h.getD (i / 4) 0 / 2 ^ (24 - 8 * (i % 4)) % 256 : Nat) : Int)) = dcur h (i + 1) := by
  have hl := outB_length h
  have e1 : (outB h).take (i + 1) = (outB h).take i ++ [UInt8.ofNat (h.getD (i / 4) 0 / 2 ^ (24 - 8 * (i % 4)) % 256)] := by
    rw [List.take_succ_eq_append_getElem (by omega), outB_getElem]
  have e2 : List.replicate (32 - i) (0 : UInt8) = 0 :: List.replicate (32 - (i + 1)) 0 := by rw [show 32 - i = (32 - (i + 1)) + 1 by omega, List.replicate_succ]
  have el : (bcells ((outB h).take i)).length = i := by rw [bcells_length, List.length_take]; omega
  rw [byte_of]
  unfold dcur
  rw [e1, e2, List.append_assoc, bcells_append, bcells_append]
  rw [List.setIfInBounds_toArray, List.set_append_right _ _ (by omega), el, Nat.sub_self]
  rfl
/-- the memory while the digest is laid -/
structure Dm (w wr : World) (h : List Nat) (i : Nat) : Prop where
  r : Row wr w.heap.size 25 zeros32
  d : Row wr (w.heap.size + 1) 25 (dcur h i)
  c : Row wr (w.heap.size + 1 + 1) 51 (stCells h (.slice none 0 0) 0)
  b : Below w.heap.size w wr
/-- the memory while the tail is made -/
structure Sm (w wr : World) (t : Value) (m : List UInt8) (h : List Nat) : Prop where
  r : Row wr w.heap.size 25 zeros32
  d : Row wr (w.heap.size + 1) 25 zeros32
  c : Row wr (w.heap.size + 1 + 1) 51 (stCells h (.slice none 0 0) 0)
  o : Owns wr (w.heap.size + 3) 5 t m
  b : Below w.heap.size w wr
theorem Sm.size {w wr : World} {t : Value} {m : List UInt8} {h : List Nat} (s : Sm w wr t m h) : w.heap.size + 3 ≤ wr.heap.size := s.c.lt
theorem Sm.alloc {w wr : World} {t : Value} {m : List UInt8} {h : List Nat} (s : Sm w wr t m h) (ob : Obj) : Sm w (wr.alloc ob) t m h :=
  ⟨s.r.old _, s.d.old _, s.c.old _, s.o.chg (M := fun _ => False) ((Chg.refl _ wr.heap.size wr).alloc (Nat.le_refl _) _) (fun k hk => ⟨(s.o.lt k hk).2, fun h => h⟩), s.b.alloc (by have := s.size; omega) _⟩
theorem Sm.drewN {w wr : World} {t : Value} {m : List UInt8} {h : List Nat} (s : Sm w wr t m h) (n : Nat) : Sm w (wr.drewN n) t m h := ⟨s.r, s.d, s.c, s.o, below_drewN' s.b n⟩
theorem Sm.grow {w wr w' : World} {t t' : Value} {m m' : List UInt8} {h : List Nat} (s : Sm w wr t m h) (hg : wr.grownBy w' t.ownBlock) (ho : Owns w' (w.heap.size + 3) 5 t' m') : Sm w w' t' m' h := by
  have hl := s.o.lt
  have ne : ∀ k, k < w.heap.size + 3 → some k ≠ t.ownBlock := fun k hk e => by have := (hl k e.symm).1; omega
  exact ⟨s.r.grown hg (ne _ (by omega)), s.d.grown hg (ne _ (by omega)), s.c.grown hg (ne _ (by omega)), ho, s.b.grown hg (by have := s.size; omega) (fun k hk => by have := (hl k hk).1; omega)⟩
set_option maxHeartbeats 1000000 in
set_option maxRecDepth 100000 in
theorem sum_any (l : List UInt8) (S B : Nat) (w : World) (hs : St w S B l) (hlen : l.length ≤ 140737488355328) :
    Calls Tryd.prog 16 #[.pointer (some ⟨S, 0, none⟩)] w fun e w' => e = .returned (.agg (bcells (digest l)).toArray) ∧ Below w.heap.size w w' := by
  have HSt := Keep.keep hs
  obtain ⟨left, hr, hown⟩ := hs.ex
  obtain ⟨aL, capL, hL, _⟩ := hown.reads.shape
  have hlt := hr.lt
  obtain ⟨h0, h1, h2, h3, h4, h5, h6, h7, hfd, _⟩ := ok8_fed l
  rw [hfd] at hr
  have c0 : w.cell? ⟨S, 0, none⟩ = some (.int .u32 (h0 : Int)) := hr.cell rfl
  have c1 : w.cell? ⟨S, 1, none⟩ = some (.int .u32 (h1 : Int)) := hr.cell rfl
  have c2 : w.cell? ⟨S, 2, none⟩ = some (.int .u32 (h2 : Int)) := hr.cell rfl
  have c3 : w.cell? ⟨S, 3, none⟩ = some (.int .u32 (h3 : Int)) := hr.cell rfl
  have c4 : w.cell? ⟨S, 4, none⟩ = some (.int .u32 (h4 : Int)) := hr.cell rfl
  have c5 : w.cell? ⟨S, 5, none⟩ = some (.int .u32 (h5 : Int)) := hr.cell rfl
  have c6 : w.cell? ⟨S, 6, none⟩ = some (.int .u32 (h6 : Int)) := hr.cell rfl
  have c7 : w.cell? ⟨S, 7, none⟩ = some (.int .u32 (h7 : Int)) := hr.cell rfl
  have c8 : w.cell? ⟨S, 8, none⟩ = some left := hr.cell rfl
  subst hL
  have k8 : ∀ o1 o2 o3, (((w.alloc o1).alloc o2).alloc o3).cell? ⟨S, 8, none⟩ = some (.slice aL (rest l).length capL) := fun o1 o2 o3 => (((Row.old hr o1).old o2).old o3).cell rfl
  have HR := Keep.keep hr; have HO := Keep.keep hown; have HFD := Keep.keep hfd
  clear hs hr hown hfd
  go_enter Tryd.func16, Tryd.ntmps16
  go_wp2_with (first
    | (go_at_call 31; ((with_reducible refine (none_any S B l _ ?_).mono ?_); rotate_left; rintro e w' ⟨rfl, rfl⟩))
    | (with_reducible refine arm_stop ?_))
  rotate_left
  · have hb : ∀ o1 o2 : Obj, Chg (fun _ => False) w.heap.size w ((w.alloc o1).alloc o2) := fun o1 o2 => ((Chg.refl _ _ w).alloc (Nat.le_refl _) o1).alloc (by simp) o2
    refine ⟨⟨_, ?_, HO.out.chg (hb _ _) (fun k hk => ⟨(HO.out.lt k hk).2, fun h => h⟩)⟩, HSt.out.k.chg (hb _ _) (by have := HSt.out.g; omega) (fun h => h), HSt.out.g, HSt.out.sb⟩
    rw [HFD.out]; exact (HR.out.old _).old _
  refine Stopped.out ?_
  refine wpList_world (R := fun w3 => Row w3 w.heap.size 25 zeros32 ∧ Row w3 (w.heap.size + 1) 25 zeros32 ∧ Row w3 (w.heap.size + 1 + 1) 51 (stCells (fed l) (.slice none 0 0) 0) ∧ Below w.heap.size w w3) ?_ ?_
  · refine ⟨((Row.new' rfl rfl).old _).old _, (Row.new' (by simp) rfl).old _, Row.new' (by simp) (by rw [HFD.out]; rfl), (((Below.refl _ _).alloc (Nat.le_refl _) _).alloc (by simp) _).alloc (by simp; omega) _⟩
  intro w3 HW3
  have hsz3 : w.heap.size + 3 ≤ w3.heap.size := HW3.out.2.2.1.lt
  clear k8 c0 c1 c2 c3 c4 c5 c6 c7 c8
  refine arm_append slB (Owns.nil w3 (w.heap.size + 3) 5) ((HO.out.reads.below HW3.out.2.2.2 (fun b hb => hb.2.1))) ?_ hsz3 rfl rfl ?_
  · rw [rest_length, List.length_nil]; omega
  intro v4 w4 ho4 hg4 _
  rw [List.nil_append] at ho4
  have hs4 : Sm w w4 v4 (rest l) (fed l) := ⟨HW3.out.1.grown hg4 (by simp [Value.ownBlock]), HW3.out.2.1.grown hg4 (by simp [Value.ownBlock]), HW3.out.2.2.1.grown hg4 (by simp [Value.ownBlock]), ho4, HW3.out.2.2.2.grown hg4 (by omega) (by simp [Value.ownBlock])⟩
  have HS4 := Keep.keep hs4
  clear hg4 ho4 hs4
  simp only [Act.put, List.setIfInBounds_toArray, List.set_cons_succ, List.set_cons_zero]
  go_wp2_with (with_reducible refine arm_stop ?_)
  refine Stopped.out ?_
  refine arm_append slB (HS4.out.alloc _).o (Reads.one w4 _ _ 128 rfl _ rfl) ?_ (HS4.out.alloc _).size rfl rfl ?_
  · rw [rest_length]; simp; omega
  intro v5 w5 ho5 hg5 _
  have hs5 : Sm w w5 v5 (rest l ++ [128] ++ List.replicate 0 0) (fed l) := by rw [List.replicate_zero, List.append_nil]; exact (HS4.out.alloc _).grow hg5 ho5
  have HS5 := Keep.keep hs5
  clear hg5 ho5 hs5
  simp only [Act.put, List.setIfInBounds_toArray, List.set_cons_succ, List.set_cons_zero]
  go_wp2_with fail
  go_loopw [5] (fun t wr => ∃ j : Nat, j ≤ noughts l.length ∧ Sm w wr t (rest l ++ [128] ++ List.replicate j 0) (fed l)) (fun t _ => 200 - lenV t)
  case atStart => exact ⟨0, Nat.zero_le _, HS5.out⟩
  case round =>
    obtain ⟨j, hj, hs⟩ := hrel
    obtain ⟨at_, ct, hu, hcap, hmax, _⟩ := hs.o.reads.shape
    have hn : (rest l ++ [128] ++ List.replicate j 0).length = l.length % 64 + 1 + j := by simp [rest_length]; omega
    rw [hn] at hu hcap
    have hno : noughts l.length = (119 - l.length % 64) % 64 := rfl
    rw [hno] at hj
    have hr64 : l.length % 64 < 64 := Nat.mod_lt _ (by decide)
    unfold maxLen at hmax
    subst hu
    have HS6 := Keep.keep hs
    have HNO := Keep.keep hno
    have HN6 := Keep.keep hn
    clear hs hn hno
    generalize hrr : l.length % 64 = r at *
    have HRR := Keep.keep hrr; clear hrr
    by_cases hjz : j < (119 - r) % 64
    · have hne : ¬ ((r + 1 + j) % 64 = 56) := by omega
      obtain ⟨n, hn⟩ : ∃ n, n = r + 1 + j := ⟨_, rfl⟩
      rw [← hn] at hne hcap HS6 ⊢
      have hn200 : n < 128 := by omega
      have HN := Keep.keep hn; clear hn
      go_wp2_with (with_reducible refine arm_stop ?_)
      refine Stopped.out ?_
      refine arm_append slB (HS6.out.alloc _).o (Reads.one wr _ _ 0 rfl _ rfl) ?_ (HS6.out.alloc _).size rfl rfl ?_
      · rw [HN6.out]; simp; omega
      intro v7 w7 ho7 hg7 _
      obtain ⟨a7, c7, hv7, _⟩ := ho7.reads.shape
      have hs7 := (HS6.out.alloc _).grow hg7 ho7
      have HS7 := Keep.keep hs7
      clear ho7 hg7 hs7
      subst hv7
      simp only [Act.put, List.setIfInBounds_toArray, List.set_cons_succ, List.set_cons_zero]
      go_wp2_with fail
      have e8 : rest l ++ [128] ++ List.replicate j 0 ++ [0] = rest l ++ [128] ++ List.replicate (j + 1) 0 := by rw [List.append_assoc, List.replicate_succ']
      have e9 : (rest l ++ [128] ++ List.replicate j 0 ++ [0]).length = n + 1 := by rw [List.length_append, HN6.out, HN.out]; simp
      refine ⟨⟨j + 1, by rw [HNO.out]; omega, by rw [← e8]; exact HS7.out⟩, ?_⟩
      rw [e9]; simp only [lenV]; omega
    · have hjz : j = (119 - r) % 64 := by omega
      have heq := (nought_eq r j hr64 hjz).1
      have hlt128 := (nought_eq r j hr64 hjz).2
      obtain ⟨n, hn⟩ : ∃ n, n = r + 1 + j := ⟨_, rfl⟩
      rw [← hn] at heq hcap HS6 hlt128 ⊢
      have HN := Keep.keep hn; clear hn
      have hheq : (n : Int) % 64 = 56 := by omega
      have HEQ := Keep.keep heq; clear heq
      have hj' := HNO.out
      rw [← hjz] at hj'
      generalize htt : rest l ++ [128] ++ List.replicate j 0 = tt at HS6 HN6
      have HTT := Keep.keep htt; clear htt
      have HJ := Keep.keep hj'; clear hj' hjz
      have c9 : w.cell? ⟨S, 9, none⟩ = some (.int .u64 (l.length : Int)) := HR.out.cell rfl
      have HC9 := Keep.keep c9; clear c9
      go_wp2_with fail
      go_loopw [5, 6] (fun t kk wr => ∃ i : Nat, i ≤ 8 ∧ kk = .int .i64 (7 - (i : Int)) ∧ Sm w wr t (tt ++ (lenB l.length).take i) (fed l)) (fun _ kk _ => (intOf kk + 1).toNat)
      case atStart => exact ⟨0, Nat.zero_le _, rfl, by simpa using HS6.out⟩
      case round =>
        obtain ⟨i, hi, rfl, hs⟩ := hrel
        obtain ⟨at2, ct2, hu2, hcap2, hmax2, _⟩ := hs.o.reads.shape
        subst hu2
        have HS8 := Keep.keep hs; clear hs
        by_cases hi8 : i < 8
        · have c9 := HS8.out.b.cell (p := ⟨S, 9, none⟩) hlt
          rw [HC9.out] at c9
          go_wp2_with (with_reducible refine arm_stop ?_)
          refine Stopped.out ?_
          refine arm_append slB (HS8.out.alloc _).o (Reads.one wr _ _ (UInt8.ofNat (l.length * 8 / 2 ^ (8 * (7 - i)) % 256)) (by rw [← byte_of]; simp) _ rfl) ?_ (HS8.out.alloc _).size rfl rfl ?_
          · rw [List.length_append, HN6.out, List.length_take, lenB_length]; simp; omega
          intro v7 w7 ho7 hg7 _
          have hs7 := (HS8.out.alloc _).grow hg7 ho7
          rw [List.append_assoc, ← lenB_take _ _ hi8] at hs7
          have HS7 := Keep.keep hs7
          clear ho7 hg7 hs7
          simp only [Act.put, List.setIfInBounds_toArray, List.set_cons_succ, List.set_cons_zero]
          go_wp2_with fail
          refine ⟨⟨i + 1, by omega, by go_num, HS7.out⟩, ?_⟩
          simp [intOf]; omega
        · obtain rfl : i = 8 := by omega
          have hs := HS8.out
          have ett : tt ++ (lenB l.length).take 8 = rest l ++ pad l.length := by
            rw [← HTT.out, ← HJ.out, List.take_of_length_le (by rw [lenB_length]; omega), pad]; simp
          rw [ett] at hs ⊢
          clear ett
          have hk8 : Consts wr := HSt.out.k.chg (M := fun _ => False) (.of_below hs.b) (by have := HSt.out.g; omega) (fun h => h)
          have hct := blocks_any _ _ _ (w.heap.size + 1 + 1) 51 (fed l) (.slice none 0 0) 0 wr hs.o.reads (fun b hb => ⟨hb.2.1, by have := hb.1; omega⟩) hs.c (ok8_fed l) hk8 (by have := HSt.out.g; omega)
          rw [← fed_append, ← rest_append] at hct
          have HCT := Keep.keep hct
          have HS9 := Keep.keep hs
          clear hct hs hk8
          generalize (rest l ++ pad l.length).length = n9 at *
          have hszr := HS9.out.size
          go_wp2_with (go_at_call 32; ((with_reducible refine HCT.out.mono ?_); rintro e' w9 ⟨v9, rfl, hb9⟩; have HB9 := Keep.keep hb9; clear hb9))
          generalize hHH : fed (l ++ pad l.length) = H at HB9
          have HHH := Keep.keep hHH; clear hHH
          have hd0 : Dm w w9 H 0 := by
            have hb := HB9.out.b
            refine ⟨HS9.out.r.chg hb (by omega) (by omega), by rw [dcur_zero]; exact HS9.out.d.chg hb (by omega) (by omega), HB9.out.s, HS9.out.b.trans ?_⟩
            exact (hb.lower (show w.heap.size ≤ wr.heap.size by omega)).below (fun k hk => by omega)
          have HD0 := Keep.keep hd0; clear hd0
          have hH8 : H.length = 8 := by rw [← HHH.out]; exact (ok8_fed _).len
          have HH8 := Keep.keep hH8; clear hH8
          go_loopw [51] (fun t wx => ∃ i : Nat, i ≤ 32 ∧ t = .int .i64 i ∧ Dm w wx H i) (fun t _ => 32 - (intOf t).toNat)
          case atStart => exact ⟨0, by omega, rfl, HD0.out⟩
          case round =>
            obtain ⟨i, hi, rfl, hd⟩ := hrel
            have HD := Keep.keep hd; clear hd
            by_cases hi32 : i < 32
            · have hcc := HD.out.c.cell (stCells_get H HH8.out (.slice none 0 0) 0 (i / 4) (by omega))
              have hdd := HD.out.d.cell (i := i) (Array.getElem?_eq_getElem (by rw [dcur_size _ _ hi]; exact hi32))
              have hff := HD.out.d.frozen i
              generalize hxx : H.getD (i / 4) 0 = x at hcc
              have HXX := Keep.keep hxx; clear hxx
              generalize (dcur H i)[i]'(by rw [dcur_size _ _ hi]; exact hi32) = old at hdd
              have hsh : (0 : Int) ≤ 24 - 8 * ((i : Int) % 4) := by omega
              go_wp2
              refine ⟨⟨i + 1, by omega, by go_num, ?_⟩, by simp [intOf]; omega⟩
              have e : ((x : Int) / 2 ^ (24 - 8 * (i % 4)) % 256) = ((H.getD (i / 4) 0 / 2 ^ (24 - 8 * (i % 4)) % 256 : Nat) : Int) := by rw [HXX.out]; simp
              rw [e]
              exact ⟨HD.out.r.other (by simp) _, HD.out.d.set' i _ (dcur_step H i hi32), HD.out.c.other (by simp) _, HD.out.b.setCell (by simp) _⟩
            · obtain rfl : i = 32 := by omega
              have hd := HD.out.d
              rw [dcur_all] at hd
              have hz : zeros32.size = 32 := by simp [zeros32, bcells]
              have hc32 : (bcells (outB H)).toArray.size = 32 := by simp [bcells, outB_length]
              have h1c : (bcells (outB H)).toArray.all (·.oneCell') = true := all_oneCell_toArray (bcells_one _)
              have HDD := Keep.keep hd; have HZ := Keep.keep hz; have HC32 := Keep.keep hc32; have H1C := Keep.keep h1c
              have HRR := Keep.keep HD.out.r
              have HRS := Keep.keep (HD.out.r.setRow (bcells (outB H)).toArray)
              have HBE := Keep.keep (below_setRow HD.out.b (Nat.le_refl _) (bcells (outB H)).toArray)
              have HDG := Keep.keep (show digest l = outB H by rw [digest, HHH.out])
              clear hd hz hc32 h1c
              generalize hcs : (bcells (outB H)).toArray = cs at HDD HC32 H1C HRS HBE
              have HCS := Keep.keep hcs; clear hcs
              go_wp2_with (first | ((with_reducible refine arm_loadRow HDD.out aggDig HC32.out ?_ ?_); (focus rfl); simp only [Act.put, List.setIfInBounds_toArray, List.set_cons_succ, List.set_cons_zero]) | ((with_reducible refine arm_storeRow HRR.out aggDig HZ.out HC32.out H1C.out ?_ ?_ ?_); (focus rfl); (focus rfl); simp only [Act.put]))
              refine bodyPost_ret (v := .agg cs) ?_ rfl ⟨by rw [HDG.out, HCS.out], HBE.out⟩
              exact results_row (p := 2) (ty := 25) rfl HRS.out aggDig HC32.out rfl
end Go.Proofs.YtofficleahalaaaDoor
