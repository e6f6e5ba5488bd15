/- PARTS OF ONE PROOF, set in one file: SwkP, CompG, CompM, CompN, RSrt1, CompR, ClM, SrtS, Grw, Tree19, ChLocL, Tr19B, AttrEq, SpcF, Bytes. Each part tells its own conditions. -/
import Derived.Shelf.SlSortCmp.KitK
import Derived.Shelf.Bytes.SlEqualAll
import Derived.Lib.SlBytesConst
import Derived.Lib.SmallJoins
import Derived.Test.YtplafpokgpolkaaGreatDoorW5
/- One thing laid into a row of a sort's world. -/
namespace Go.Proofs.YtplafpokgpolkaaGreatDoor
open Go.Shelf Go.RowKit Go.Lib Go.Sort
variable {α : Type} [Inhabited α] {enc : α → List Value} {k : Nat} {w0 W : World} {blk off : Nat} {dk : Array α}
theorem setMany_put (hk : ∀ x, (enc x).length = k) (d : Array α) (i : Nat) (x : α) (hi : i < d.size) : setMany (flatK enc k d) (i * k) (enc x) = flatK enc k (d.setIfInBounds i x) := by
  refine ext_get! (by simp) fun t ht => ?_
  rw [size_setMany, size_flatK] at ht
  have hk0 : 0 < k := by
    rcases Nat.eq_zero_or_pos k with e | e
    · rw [e, Nat.mul_zero] at ht; omega
    · exact e
  rw [get_setMany _ _ _ _ (by rw [size_flatK]; exact ht), hk, get_flatK _ _ _ _ ht, get_flatK _ _ _ _ (by simpa using ht)]
  have hdiv : t / k < d.size := Nat.div_lt_of_lt_mul (by rw [Nat.mul_comm]; exact ht)
  by_cases h : i * k ≤ t ∧ t < i * k + k
  · rw [if_pos h]
    have e := (blk_iff k i t hk0).1 h
    have e2 : t - i * k = t % k := by
      have := Nat.div_add_mod t k
      rw [e, Nat.mul_comm] at this
      omega
    rw [e, e2]
    simp [getElem!_def, hi]
  · rw [if_neg h]
    have e : ¬ t / k = i := fun e => h ((blk_iff k i t hk0).2 e)
    simp [getElem!_def, Array.getElem?_setIfInBounds_ne (Ne.symm e)]
theorem Swk.put (h : SWK enc k w0 blk off dk W) {d0 : Array α} (R : RowK enc k w0 blk off d0) (i : Nat) (x : α) (hi : i < dk.size) : SWK enc k w0 blk off (dk.setIfInBounds i x) (W.setCells blk (off + i * k) (enc x)) := by
  obtain ⟨m, os, rfl⟩ := h
  refine ⟨m, os, ?_⟩
  unfold sortWorldK
  rw [setCells_grow os blk _ _ _ (by rw [size_putRowK]; exact R.hblk)]
  congr 1
  unfold putRowK
  have hb : i * k + (enc x).length ≤ (flatK enc k dk).size := by rw [R.hk, size_flatK]; exact rowK_bnd dk k i hi
  rw [setCells_putRow _ _ _ _ _ _ hb, setMany_put R.hk dk i x hi]
end Go.Proofs.YtplafpokgpolkaaGreatDoor
/- slices.CompactFunc: what its loops keep, plainly. -/
namespace Go.Proofs.YtplafpokgpolkaaGreatDoor
section
variable {α : Type} {k : α → Tx}
/-- nothing dropped up to j -/
def AllA (k : α → Tx) (l : List α) (j : Nat) : Prop := compA k (l.take j) = l.take j
theorem AllA.one (l : List α) : AllA k l 1 := compA_one l
theorem AllA.next {l : List α} {j : Nat} (h : AllA k l j) (h0 : 0 < j) (hj : j < l.length) (hne : ¬ k l[j] = k l[j - 1]) : AllA k l (j + 1) := by
  unfold AllA at h ⊢
  rw [compA_take l j h0 hj, if_neg hne, h, List.take_succ_eq_append_getElem hj]
/-- the row while it is done; from j on it is as it was, and one ahead of that -/
structure CFM (k : α → Tx) (l ls : List α) (j : Nat) : Prop where
  sz : ls.length = l.length
  pre : ls.take (compA k (l.take j)).length = compA k (l.take j)
  post : ∀ m, j ≤ m + 1 → m < l.length → ls[m]? = l[m]?
  less : (compA k (l.take j)).length < j
theorem CFM.start {l : List α} {j : Nat} (h : AllA k l j) (h0 : 0 < j) (hj : j < l.length) (he : k l[j] = k l[j - 1]) : CFM k l l (j + 1) ∧ (compA k (l.take (j + 1))).length = j := by
  unfold AllA at h
  have e : compA k (l.take (j + 1)) = l.take j := by rw [compA_take l j h0 hj, if_pos he, h, List.append_nil]
  have hl : (l.take j).length = j := by rw [List.length_take]; omega
  refine ⟨⟨rfl, by rw [e, hl], fun _ _ _ => rfl, by rw [e, hl]; omega⟩, by rw [e, hl]⟩
theorem CFM.skip {l ls : List α} {j : Nat} (h : CFM k l ls j) (h0 : 0 < j) (hj : j < l.length) (he : k l[j] = k l[j - 1]) : CFM k l ls (j + 1) ∧ compA k (l.take (j + 1)) = compA k (l.take j) := by
  have e : compA k (l.take (j + 1)) = compA k (l.take j) := by rw [compA_take l j h0 hj, if_pos he, List.append_nil]
  exact ⟨⟨h.sz, by rw [e]; exact h.pre, fun m hm hl => h.post m (by omega) hl, by rw [e]; have := h.less; omega⟩, e⟩
theorem CFM.put {l ls : List α} {j : Nat} (h : CFM k l ls j) (h0 : 0 < j) (hj : j < l.length) (he : ¬ k l[j] = k l[j - 1]) : CFM k l (ls.set (compA k (l.take j)).length l[j]) (j + 1) ∧ (compA k (l.take (j + 1))).length = (compA k (l.take j)).length + 1 := by
  have e : compA k (l.take (j + 1)) = compA k (l.take j) ++ [l[j]] := by rw [compA_take l j h0 hj, if_neg he]
  have hs := h.sz
  have hle := h.less
  refine ⟨⟨by simp [hs], ?_, fun m hm hml => ?_, by rw [e, List.length_append, List.length_singleton]; omega⟩, by rw [e, List.length_append, List.length_singleton]⟩
  · rw [e, List.length_append, List.length_singleton, List.take_succ_eq_append_getElem (by rw [List.length_set]; omega), List.getElem_set_self, List.take_set_of_le (Nat.le_refl _), h.pre]
  · rw [List.getElem?_set_ne (by omega)]
    exact h.post m (by omega) hml
theorem CFM.done {l ls : List α} (h : CFM k l ls l.length) : ls.take (compA k l).length = compA k l := by
  have := h.pre
  rwa [List.take_length] at this
end
end Go.Proofs.YtplafpokgpolkaaGreatDoor
/- slices.CompactFunc over Members: in the worlds of a sort. -/
namespace Go.Proofs.YtplafpokgpolkaaGreatDoor
open Go.Shelf Go.RowKit Go.Lib Go.Sort
section
variable {α : Type} [Inhabited α] {enc : α → List Value} {k : Nat} {w0 W : World} {blk off : Nat} {dk : Array α}
/-- what is asked of the question -/
def EqLays (g : Nat) (cb : Array Value) (enc : α → List Value) (k : Nat) (eqf : α → α → Bool) (blk off size : Nat) (w : World) : Prop :=
  ∀ (m : Nat) (os : Array Obj) (dk : Array α), dk.size = size → ∀ x y : α,
    Calls Tryz.prog g (#[.agg (enc x).toArray, .agg (enc y).toArray] ++ cb) (sortWorldK enc k w blk off m dk os) fun e w' => e = .returned (.bool (eqf x y)) ∧ ∃ q os', w' = grow ((sortWorldK enc k w blk off m dk os).drewN q) os'
theorem Swk.eq {g : Nat} {cb : Array Value} {eqf : α → α → Bool} {size : Nat} (h : SWK enc k w0 blk off dk W) (hC : EqLays g cb enc k eqf blk off size w0) (hs : dk.size = size) (x y : α) (n : Nat) (os : Array Obj) :
    Calls Tryz.prog g (#[.agg (enc x).toArray, .agg (enc y).toArray] ++ cb) (grow (W.drewN n) os) fun e w' => e = .returned (.bool (eqf x y)) ∧ ∃ q os', w' = grow ((grow (W.drewN n) os).drewN q) os' := by
  obtain ⟨m, os0, hw⟩ := h.grown n os
  rw [hw]
  exact hC m os0 dk hs x y
end
end Go.Proofs.YtplafpokgpolkaaGreatDoor
/- slices.CompactFunc over Members: in the worlds of a sort; whichever neighbours agree. -/
namespace Go.Proofs.YtplafpokgpolkaaGreatDoor
open Go.Shelf Go.RowKit Go.Lib Go.Sort
section
variable {α : Type} [Inhabited α]
theorem get_toL (d : Array α) {i : Nat} (h : i < d.size) : d.toList[i]? = some d[i]! := by
  rw [Array.getElem?_toList, Array.getElem?_eq_getElem h, getElem!_pos d i h]
omit [Inhabited α] in
theorem set_toL (d : Array α) (i : Nat) (x : α) : (d.setIfInBounds i x).toList = d.toList.set i x := by simp
end
set_option maxHeartbeats 4000000 in
set_option maxRecDepth 1000000 in
theorem cfun_any {α : Type} [Inhabited α] (k : Nat) (zE : ∀ w, (Go.sizeOf 32).run Tryz.prog w = .ok k w) (enc : α → List Value) (g : Nat) (cb : Array Value) (blk off cap : Nat) (key : α → Tx) (d0 : Array α) (w0 : World) (R : RowK enc k w0 blk off d0) (heq : EqLays g cb enc k (fun x y => key x == key y) blk off d0.size w0) (eg : ∀ args w, (callFunc g args).run Tryz.prog w = .ok (.enter g args) w) (hsz : d0.size < 1000000000000) (hcap : d0.size ≤ cap)
    (hsf : ∀ i, i < d0.size → ∀ w, (Instr.slice 35 (.slice (some ⟨blk, off, none⟩) d0.size cap) (some (.int .i64 (i : Int))) none none).run Tryz.prog w = .ok (.slice (some ⟨blk, off + i * k, none⟩) (d0.size - i) (cap - i)) w)
    (hst : ∀ i, i ≤ d0.size → ∀ w, (Instr.slice 35 (.slice (some ⟨blk, off, none⟩) d0.size cap) none (some (.int .i64 (i : Int))) none).run Tryz.prog w = .ok (.slice (some ⟨blk, off, none⟩) i cap) w)
    (Fin : Nat → Array α → World → Prop) (hcl : ∀ (n : Nat) (dk : Array α) (w : World), n < d0.size → dk.size = d0.size → SWK enc k w0 blk off dk w → (∀ x ∈ dk.toList, x ∈ d0.toList) → dk.toList.take n = compA key d0.toList →
      ∃ W, (∀ ty, (Builtin.clear_ #[35] ty #[.slice (some ⟨blk, off + n * k, none⟩) (d0.size - n) (cap - n)]).run Tryz.prog w = .ok (.tuple #[]) W) ∧ Fin n dk W)
    (w : World) (S : SWK enc k w0 blk off d0 w) :
    Calls Tryz.prog 83 #[.slice (some ⟨blk, off, none⟩) d0.size cap, .func (.func g) #[] cb] w fun e w' => (e = .returned (.slice (some ⟨blk, off, none⟩) d0.size cap) ∧ SWK enc k w0 blk off d0 w' ∧ compA key d0.toList = d0.toList) ∨
      ∃ n dk, e = .returned (.slice (some ⟨blk, off, none⟩) n cap) ∧ n = (compA key d0.toList).length ∧ n < d0.size ∧ Fin n dk w' := by
  have aE : ∀ w, (isAgg 32).run Tryz.prog w = .ok true w := fun w => by kernel_rfl
  have mixed : Tryz.prog.follows Departure.mixedOrders = true := by first | rfl | kernel_rfl
  have S0 : Aside (SWK enc k w0 blk off d0 w) := S
  have HC : Aside (EqLays g cb enc k (fun x y => key x == key y) blk off d0.size w0) := heq
  have HSF := Keep.keep hsf; have HST := Keep.keep hst; have HCLR := Keep.keep hcl
  clear S heq hsf hst hcl
  obtain ⟨n, hn⟩ : ∃ x, x = d0.size := ⟨_, rfl⟩
  have HN : Keep (d0.size = n) := ⟨hn.symm⟩
  rw [← hn] at hsz hcap HSF HST HCLR ⊢
  by_cases h2 : n < 2
  · have h2z : (n : Int) < 2 := by omega
    clear hn
    go_enter Tryz.func83, Tryz.ntmps83
    go_wp2_with fail
    go_ret
    refine .inl ⟨rfl, S0.out, ?_⟩
    have hl : d0.toList.length = n := by rw [Array.length_toList]; exact HN.out
    rcases (by omega : n = 0 ∨ n = 1) with h | h
    · have : d0.toList = [] := List.eq_nil_of_length_eq_zero (by omega)
      rw [this]; rfl
    · have e : d0.toList.take 1 = d0.toList := List.take_of_length_le (by omega)
      have := compA_one (k := key) d0.toList
      rwa [e] at this
  · have h2z : ¬ (n : Int) < 2 := by omega
    obtain ⟨d, hd⟩ : ∃ x, x = d0 := ⟨_, rfl⟩
    have hds : d.size = n := by rw [hd, HN.out]
    have HD : Keep (d = d0) := ⟨hd⟩
    have HDS : Keep (d.size = n ∧ d.toList.length = n) := ⟨hds, by rw [Array.length_toList]; exact hds⟩
    have HALL0 : Aside (AllA key d.toList 1) := AllA.one _
    have S0 : Aside (SWK enc k w0 blk off d w) := by rw [hd]; exact S0
    rw [← hd] at HCLR ⊢
    clear hn hd
    go_enter Tryz.func83, Tryz.ntmps83
    go_wp2
    go_loopg [5] n (fun kx s5 wr => ∃ j : Nat, s5 = .int .i64 j ∧ 1 ≤ j ∧ j ≤ n ∧ n - j ≤ kx ∧ Aside (SWK enc k w0 blk off d wr) ∧ Aside (AllA key d.toList j))
    case atStart => exact ⟨1, by go_num, by omega, by omega, by omega, S0, HALL0⟩
    case round =>
      clear S0 HALL0
      obtain ⟨j, rfl, hj1, hjn, hkx, S1, A1⟩ := hrel
      by_cases hlt : j < n
      · have hltz : (j : Int) < (n : Int) := by omega
        obtain ⟨p, hp⟩ : ∃ x, x = j - 1 := ⟨_, rfl⟩
        have rp : (j : Int) - 1 = (p : Int) := by omega
        have rpw : IntKind.i64.wrap (p : Int) = (p : Int) := by rw [IntKind.wrap_i64]; omega
        have hpn : p < n := by omega
        have HJ : Keep (j < d.toList.length ∧ d.toList[j]? = some d[j]! ∧ d.toList[j - 1]? = some d[p]!) := ⟨by have := HDS.out; omega, get_toL d (by omega), by rw [← hp]; exact get_toL d (by omega)⟩
        clear hp
        have bx : ((j : Nat) : Int) < (n : Int) := by omega
        have bp : ((p : Nat) : Int) < (n : Int) := by omega
        obtain ⟨x, hx⟩ : ∃ x, x = d[j]! := ⟨_, rfl⟩
        obtain ⟨y, hy⟩ : ∃ y, y = d[p]! := ⟨_, rfl⟩
        have la := S1.out.ld R (by rw [hds]; exact HN.out.symm) Tryz.prog j (by omega)
        have lb := S1.out.ld R (by rw [hds]; exact HN.out.symm) Tryz.prog p (by omega)
        rw [← hx] at la HJ
        rw [← hy] at lb HJ
        have hc := Swk.eq S1.out HC.out (by rw [hds]; exact HN.out.symm) x y
        by_cases hq : key x = key y
        · have hqb : (key x == key y) = true := by simp [hq]
          simp only [hqb] at hc
          have HST2 : Keep (CFM key d.toList d.toList (j + 1) ∧ (compA key (d.toList.take (j + 1))).length = j) := ⟨CFM.start A1.out (by omega) HJ.out.1 (by
            have e1 := HJ.out.2.1; have e2 := HJ.out.2.2
            rw [List.getElem?_eq_getElem HJ.out.1] at e1
            rw [List.getElem?_eq_getElem (by have := HJ.out.1; omega)] at e2
            injection e1 with e1; injection e2 with e2
            rw [e1, e2]; exact hq)⟩
          clear hx hy hq hqb A1 HJ
          go_wp2_with fail
          go_quiet_grown (first | (go_at_fn g; refine Calls.grown_of (hc _ _)))
          have S2 : Aside (SWK enc k w0 blk off d (grow (wr.drewN nq) osq)) := S1.out.grown nq osq
          clear la lb hc S1
          generalize grow (wr.drewN nq) osq = w2 at S2 ⊢
          clear nq osq
          obtain ⟨m, hm⟩ : ∃ m, m = n - j := ⟨_, rfl⟩
          obtain ⟨c2, hc2⟩ : ∃ c, c = cap - j := ⟨_, rfl⟩
          have hsl := fun w => HSF.out j hlt w
          rw [← hm, ← hc2] at hsl
          have hmn : j + m ≤ n ∧ n ≤ j + m := by omega
          have hm0 : 1 ≤ m := by omega
          have hmc : m ≤ c2 := by omega
          have HM : Keep (j + m = n) := ⟨by omega⟩
          clear hm hc2
          obtain ⟨jk, hjk⟩ : ∃ o, o = off + j * k := ⟨_, rfl⟩
          rw [← hjk] at hsl
          have HJK := Keep.keep hjk
          clear hjk
          go_wp2
          go_loopg [5, 7] m (fun ky s5 s7 wr => ∃ (kk q : Nat) (dk : Array α), s5 = .int .i64 kk ∧ s7 = .int .i64 q ∧ 1 ≤ q ∧ q ≤ m ∧ m - q ≤ ky ∧ Aside (SWK enc k w0 blk off dk wr) ∧ Aside (CFM key d.toList dk.toList (j + q) ∧ (compA key (d.toList.take (j + q))).length = kk ∧ ∀ x ∈ dk.toList, x ∈ d.toList))
          case atStart => exact ⟨j, 1, d, by go_num, by go_num, by omega, by omega, by omega, S2, HST2.out.1, HST2.out.2, fun x hx => hx⟩
          case round =>
            clear S2 HST2
            obtain ⟨kk, q, dk, rfl, rfl, hq1, hqm, hky, S3, C3⟩ := hrel
            have hdk : dk.size = n := by have := C3.out.1.sz; rw [Array.length_toList, HDS.out.2] at this; exact this
            have hdr : dk.size = d0.size := by rw [hdk]; exact HN.out.symm
            have hkk : kk < n := by have := C3.out.1.less; rw [C3.out.2.1] at this; omega
            have HDR := Keep.keep hdr
            clear hdr
            by_cases hqlt : q < m
            · have hqz : (q : Int) < (m : Int) := by omega
              obtain ⟨p2, hp2⟩ : ∃ x, x = q - 1 := ⟨_, rfl⟩
              have rp2 : (q : Int) - 1 = (p2 : Int) := by omega
              have rp2w : IntKind.i64.wrap (p2 : Int) = (p2 : Int) := by rw [IntKind.wrap_i64]; omega
              have hp2m : p2 < m := by omega
              have bq : ((q : Nat) : Int) < (m : Int) := by omega
              have bp2 : ((p2 : Nat) : Int) < (m : Int) := by omega
              have bk : ((kk : Nat) : Int) < (n : Int) := by omega
              obtain ⟨x, hx⟩ : ∃ x, x = dk[j + q]! := ⟨_, rfl⟩
              obtain ⟨y, hy⟩ : ∃ y, y = dk[j + p2]! := ⟨_, rfl⟩
              have HXY : Keep (j + q < d.toList.length ∧ d.toList[j + q]? = some x ∧ d.toList[j + q - 1]? = some y) := ⟨by have := HDS.out; omega, by
                rw [← C3.out.1.post (j + q) (by omega) (by have := HDS.out; omega), hx]; exact get_toL dk (by omega), by
                rw [← C3.out.1.post (j + q - 1) (by omega) (by have := HDS.out; omega), hy, show j + q - 1 = j + p2 by omega]; exact get_toL dk (by omega)⟩
              have la := S3.out.ld R HDR.out Tryz.prog (j + q) (by omega)
              have lb := S3.out.ld R HDR.out Tryz.prog (j + p2) (by omega)
              rw [← hx, Nat.add_mul, ← Nat.add_assoc, ← HJK.out] at la
              rw [← hy, Nat.add_mul, ← Nat.add_assoc, ← HJK.out] at lb
              have hc := Swk.eq S3.out HC.out (by rw [hdk]; exact HN.out.symm) x y
              clear hp2
              have e1 := HXY.out.2.1; have e2 := HXY.out.2.2
              rw [List.getElem?_eq_getElem HXY.out.1] at e1
              rw [List.getElem?_eq_getElem (by have := HXY.out.1; omega)] at e2
              injection e1 with e1; injection e2 with e2
              by_cases hqe : key x = key y
              · have hqb : (key x == key y) = true := by simp [hqe]
                simp only [hqb] at hc
                have C4 : Aside (CFM key d.toList dk.toList (j + (q + 1)) ∧ (compA key (d.toList.take (j + (q + 1)))).length = kk ∧ ∀ x ∈ dk.toList, x ∈ d.toList) := by
                  obtain ⟨h1, h2⟩ := C3.out.1.skip (by omega) HXY.out.1 (by rw [e1, e2]; exact hqe)
                  exact ⟨h1, by rw [← Nat.add_assoc, h2]; exact C3.out.2.1, C3.out.2.2⟩
                clear hx hy hqe hqb e1 e2 HXY C3
                go_wp2_with fail
                go_quiet_grown (first | (go_at_fn g; refine Calls.grown_of (hc _ _)))
                have S4 : Aside (SWK enc k w0 blk off dk (grow (wr.drewN nq) osq)) := S3.out.grown nq osq
                clear la lb hc S3
                generalize grow (wr.drewN nq) osq = w4 at S4 ⊢
                clear nq osq
                go_wp2
                go_roundg (m - (q + 1))
                case measure => omega
                case rel => exact ⟨kk, q + 1, dk, by go_num, by go_num, by omega, by omega, Nat.le_refl _, S4, C4⟩
              · have hqb : (key x == key y) = false := by simp [hqe]
                simp only [hqb] at hc
                have C4 : Aside (CFM key d.toList (dk.setIfInBounds kk x).toList (j + (q + 1)) ∧ (compA key (d.toList.take (j + (q + 1)))).length = kk + 1 ∧ ∀ x' ∈ (dk.setIfInBounds kk x).toList, x' ∈ d.toList) := by
                  obtain ⟨h1, h2⟩ := C3.out.1.put (by omega) HXY.out.1 (by rw [e1, e2]; exact hqe)
                  rw [C3.out.2.1, e1] at h1
                  rw [set_toL]
                  refine ⟨h1, by rw [← Nat.add_assoc, h2, C3.out.2.1], fun x' hx' => ?_⟩
                  rcases List.mem_or_eq_of_mem_set hx' with h | h
                  · exact C3.out.2.2 x' h
                  · rw [h, ← e1]; exact List.getElem_mem _
                have HXE : Keep (dk[j + q]! = x) := ⟨hx.symm⟩
                clear hx hy hqe hqb e1 e2 HXY C3
                go_wp2_with fail
                go_quiet_grown (first | (go_at_fn g; refine Calls.grown_of (hc _ _)))
                have S4 : Aside (SWK enc k w0 blk off dk (grow (wr.drewN nq) osq)) := S3.out.grown nq osq
                clear la lb hc S3
                generalize grow (wr.drewN nq) osq = w4 at S4 ⊢
                clear nq osq
                have l4 := S4.out.load R HDR.out Tryz.prog (j + q) (by omega)
                have l4x : dk[j + q]! = x := HXE.out
                rw [l4x, Nat.add_mul, ← Nat.add_assoc, ← HJK.out] at l4
                have s4 := stores_of_holds Tryz.prog (S4.out.holds R.hblk R.hH HDR.out) (kk * k) (enc x) (by rw [R.hk, size_flatK]; exact rowK_bnd dk k kk (by omega)) (R.h1 _)
                have na : (enc x).length = k := R.hk _
                have S5 : Aside (SWK enc k w0 blk off (dk.setIfInBounds kk x) (w4.setCells blk (off + kk * k) (enc x))) := Swk.put S4.out R kk x (by omega)
                clear S4 l4x
                generalize enc x = cx at S5 l4 s4 na
                go_wp2
                generalize w4.setCells blk (off + kk * k) cx = w5 at S5 ⊢
                clear l4 s4 na
                go_wp2
                go_roundg (m - (q + 1))
                case measure => omega
                case rel => exact ⟨kk + 1, q + 1, _, by go_num, by go_num, by omega, by omega, Nat.le_refl _, S5, C4⟩
            · have hqz : ¬ (q : Int) < (m : Int) := by omega
              obtain rfl : q = m := by omega
              have hD : CFM key d.toList dk.toList d.toList.length := by
                have := C3.out.1; rw [HM.out] at this; rw [HDS.out.2]; exact this
              have hL : (compA key d.toList).length = kk := by
                have := C3.out.2.1
                rw [HM.out, List.take_of_length_le (by rw [HDS.out.2]; exact Nat.le_refl _)] at this
                exact this
              have HL := Keep.keep hL
              obtain ⟨W, hW, hF⟩ := HCLR.out kk dk wr hkk hdk (by rw [HD.out] at *; exact S3.out) C3.out.2.2 (by rw [← hL]; exact hD.done)
              have HF := Keep.keep hF
              have hs1 := fun w => HSF.out kk hkk w
              have hs2 := fun w => HST.out kk (by omega) w
              obtain ⟨m9, hm9⟩ : ∃ m, m = n - kk := ⟨_, rfl⟩
              obtain ⟨c9, hc9⟩ : ∃ c, c = cap - kk := ⟨_, rfl⟩
              rw [← hm9, ← hc9] at hW hs1
              clear hm9 hc9 hD hL hF C3 S3
              go_wp2_with fail
              go_ret
              exact .inr ⟨kk, rfl, HL.out.symm, hkk, dk, HF.out⟩
        · have hqb : (key x == key y) = false := by simp [hq]
          simp only [hqb] at hc
          have A2 : Aside (AllA key d.toList (j + 1)) := A1.out.next (by omega) HJ.out.1 (by
            have e1 := HJ.out.2.1; have e2 := HJ.out.2.2
            rw [List.getElem?_eq_getElem HJ.out.1] at e1
            rw [List.getElem?_eq_getElem (by have := HJ.out.1; omega)] at e2
            injection e1 with e1; injection e2 with e2
            rw [e1, e2]; exact hq)
          clear hx hy hq hqb A1 HJ
          go_wp2_with fail
          go_quiet_grown (first | (go_at_fn g; refine Calls.grown_of (hc _ _)))
          have S2 : Aside (SWK enc k w0 blk off d (grow (wr.drewN nq) osq)) := S1.out.grown nq osq
          clear la lb hc S1
          generalize grow (wr.drewN nq) osq = w2 at S2 ⊢
          clear nq osq
          go_wp2
          go_roundg (n - (j + 1))
          case measure => omega
          case rel => exact ⟨j + 1, by go_num, by omega, by omega, Nat.le_refl _, S2, A2⟩
      · have hltz : ¬ (j : Int) < (n : Int) := by omega
        have HA : Keep (compA key d.toList = d.toList) := ⟨by
          have h := A1.out
          unfold AllA at h
          rwa [List.take_of_length_le (by have := HDS.out.2; omega)] at h⟩
        go_wp2
        go_ret
        exact .inl ⟨rfl, S1.out, HA.out⟩
end Go.Proofs.YtplafpokgpolkaaGreatDoor
/- A row of Members of one's own as a world of a sort, and back; the reference's insertion as a sort of an array. -/
namespace Go.Proofs.YtplafpokgpolkaaGreatDoor
open Go.RowKit Go.Sort Go.Shelf
section
variable {α : Type} [Inhabited α] {lt : α → α → Bool}
end
section
variable {base g cap n : Nat} {K : Nat → Prop} {w w' : World} {l : List Mv}
/-- a row of one's own as a sort's world -/
theorem RowM.swk (h : RowM base K w (.slice (some ⟨g, 0, none⟩) n cap) l) : ∃ d0 : Array MvS, d0.toList.map (·.1) = l ∧ d0.size = l.length ∧ RowK encS 9 w g 0 d0 ∧ SWK encS 9 w g 0 d0 w := by
  rcases h.own.2 with ⟨h1, -⟩ | ⟨g', cap', cur, h1, hb, hh, hn, hm, hs, ht⟩
  · cases h1
  injection h1 with e1 e2 e3; injection e1 with e1; injection e1 with e1 _ _; subst e1 e2
  obtain ⟨ls, rfl⟩ := list_sub l (fun x hx => (h.nd x hx).shape)
  have hH : HoldsK encS 9 w g 0 ls.toArray := by
    intro j hj
    rw [size_flatK] at hj
    have h1 := flat_get ls.toArray j hj
    rw [Nat.zero_add, h.own.cellAt j (by simpa using hj), h.own.frozenAt j]
    exact ⟨h1, rfl⟩
  have R : RowK encS 9 w g 0 ls.toArray := ⟨fun x => mcell_len x.1, fun x v hv => mcells_one (l := [x.1]) (fun y hy => by rw [List.mem_singleton.1 hy]; exact x.2) v (by rw [mcells_cons]; exact List.mem_append_left _ hv), hH, (Array.getElem?_eq_some_iff.1 hh).1⟩
  exact ⟨ls.toArray, rfl, by simp, R, ⟨0, #[], (sortWorldK_start encS 9 w g 0 ls.toArray hH).symm⟩⟩
theorem grownBy_swkS {d' : Array MvS} (h : SWK encS 9 w g 0 d' w') : w.grownBy w' (some g) ∧ ∃ n os, w' = grow (putRow id (Sort.ahead w n) g 0 (flatK encS 9 d')) os := by
  obtain ⟨n, os, rfl⟩ := h
  exact ⟨grownBy_sortedK (w := w) (g := g) (n := n) (os := os) (flatK encS 9 d'), n, os, rfl⟩
/-- .. and back -/
theorem RowM.ofSwk (h : RowM base K w (.slice (some ⟨g, 0, none⟩) n cap) l) (hB : base ≤ w.heap.size) {d' : Array MvS} (S : SWK encS 9 w g 0 d' w') (hd : d'.size = l.length) (hsub : ∀ x ∈ d'.toList.map (·.1), x ∈ l) : RowM base K w' (.slice (some ⟨g, 0, none⟩) n cap) (d'.toList.map (·.1)) ∧ Below base w w' := by
  rcases h.own.2 with ⟨h1, -⟩ | ⟨g', cap', cur, h1, hb, hh, hn, hm, hs, ht⟩
  · cases h1
  injection h1 with e1 e2 e3; injection e1 with e1; injection e1 with e1 _ _; subst e1 e2 e3
  obtain ⟨hgr, m, os, rfl⟩ := grownBy_swkS S
  have hF : (flatK encS 9 d').size = l.length * 9 := by rw [size_flatK, hd]
  refine ⟨⟨?_, fun x hx => ?_⟩, ?_⟩
  · have hl : (d'.toList.map (·.1)).length = l.length := by simp [hd]
    rw [hl]
    refine ⟨by rw [mcells_length, hl], .inr ⟨g, cap, _, rfl, hb, heap_sortedK _ hh, hn, hm, by simp [putCells, hs], ?_⟩⟩
    rw [← hF, take_putCellsK _ _ (by rw [hF, hs]; exact Nat.mul_le_mul_right 9 hn), flat_list]
  · refine ((h.nd x (hsub x hx)).loc (fun b e => hgr.block b e.2.1 (fun e2 => e.2.2 (by injection e2 with e2; rw [e2]; rfl)))).mono (fun b e => ⟨e.1, Nat.lt_of_lt_of_le e.2.1 hgr.size, e.2.2⟩)
  · exact (Chg.grown (M := NoM) (.refl _ _ _) hgr hB (fun k e => .inl (by injection e with e; omega))).below (fun _ _ h => h)
end
end Go.Proofs.YtplafpokgpolkaaGreatDoor
/- slices.CompactFunc over Members of one's own: of neighbours of one path the first one. -/
namespace Go.Proofs.YtplafpokgpolkaaGreatDoor
open Go.Shelf Go.RowKit Go.Lib Go.Sort
set_option maxHeartbeats 1000000 in
set_option maxRecDepth 100000 in
theorem cfun_nil (f : FuncId) (cb : Array Value) (w : World) : Calls Tryz.prog 83 #[.slice none 0 0, .func (.func f) #[] cb] w fun e w' => e = .returned (.slice none 0 0) ∧ w = w' := by
  go_enter Tryz.func83, Tryz.ntmps83
  go_wp2_with fail
  go_ret
  exact ⟨rfl, rfl⟩
theorem slice_mto_at (g n cap i : Nat) (hi : i ≤ cap) (w : World) : (Instr.slice 35 (.slice (some ⟨g, 0, none⟩) n cap) none (some (.int .i64 (i : Int))) none).run Tryz.prog w = .ok (.slice (some ⟨g, 0, none⟩) i cap) w := slice_mto _ n cap i .i64 hi w
set_option maxHeartbeats 1000000 in
set_option maxRecDepth 100000 in
theorem compact_mb (base : Nat) (K : Nat → Prop) (v : Value) (l : List Mv) (w : World) (hB : base ≤ w.heap.size) (h : RowM base K w v l) (hl : l.length < 1000000000) :
    Calls Tryz.prog 83 #[v, .func (.func 84) #[] #[]] w fun e w' => ∃ v', e = .returned v' ∧ RowM base K w' v' (compA (fun x : Mv => x.1.1) l) ∧ Below base w w' := by
  rcases h.own.2 with ⟨rfl, hz⟩ | ⟨g, cap, cur, rfl, hb, hh, hn, hm, hs, ht⟩
  · obtain rfl : l = [] := List.eq_nil_of_length_eq_zero hz
    refine (cfun_nil 84 #[] w).mono ?_
    rintro e w' ⟨rfl, rfl⟩
    exact ⟨_, rfl, h, Below.refl _ _⟩
  · obtain ⟨d0, hd0, hsz, R, S⟩ := h.swk
    have hcmap : (compA pathS d0.toList).map (·.1) = compA (fun x : Mv => x.1.1) l := by
      rw [← hd0]
      exact compA_map (k := fun x : Mv => x.1.1) (fun x : MvS => x.1) d0.toList
    have hc := cfun_any 9 (fun w => by kernel_rfl) encS 84 #[] g 0 cap pathS d0 w R (fun m os dk _ x y => eqp_any x y _) ent_eqp (by rw [hsz]; omega) (by rw [hsz]; exact hn)
      (fun i hi w => by rw [Nat.zero_add, hsz]; exact slice_mfrom_at g l.length cap i (by omega) hn (by omega) w)
      (fun i hi w => slice_mto_at g _ cap i (by omega) w)
      (fun n dk W => RowM base K W (.slice (some ⟨g, 0, none⟩) n cap) ((dk.toList.map (·.1)).take n) ∧ Below base w W ∧ dk.toList.take n = compA pathS d0.toList)
      (fun n dk w1 hnl hdk S1 hsub htk => by
        have hdl : dk.size = l.length := by rw [hdk, hsz]
        have hr := h.ofSwk hB S1 hdl (fun x hx => by
          obtain ⟨z, hz, rfl⟩ := List.mem_map.1 hx
          rw [← hd0]
          exact List.mem_map.2 ⟨z, hsub z hz, rfl⟩)
        have hown := hr.1.own
        have hll : (dk.toList.map (·.1)).length = l.length := by simp [hdl]
        rw [hll] at hown
        obtain ⟨zs, hzl, hcl⟩ := run_clear_mbs w1 g (n * 9) (l.length - n) (cap - n) (by omega) (fun m hm => by
          rw [hown.cellAt _ (by omega), List.getElem?_eq_getElem (by rw [mcells_length, hll]; omega)]; rfl) (fun m hm => hown.frozenAt _)
        have hown2 := owns_setCells zs _ w1 (n * 9) hown
        have hown3 := owns_take (k := n) hown2.1 (by omega) (by rw [layAt_take _ _ _ (by rw [mcells_length, hll]; omega), ← mcells_take])
        have hB1 : base ≤ w1.heap.size := Nat.le_trans hB hr.2.size
        have hch := (Chg.grown (M := NoM) (.refl _ _ _) hown2.2 hB1 (fun k e => .inl (by injection e with e; omega))).below (fun _ _ h => h)
        refine ⟨w1.setCells g (n * 9) zs, by rw [Nat.zero_add, hsz]; exact hcl, ⟨?_, fun x hx => ?_⟩, hr.2.trans hch, htk⟩
        · rw [List.length_take, hll, Nat.min_eq_left (by omega)]
          exact hown3
        · have hx2 := List.mem_of_mem_take hx
          exact ((hr.1.nd x hx2).loc (fun b e => hown2.2.block b e.2.1 (fun e2 => e.2.2 (by injection e2 with e2; rw [← e2]; rfl)))).mono (fun b e => ⟨e.1, Nat.lt_of_lt_of_le e.2.1 hown2.2.size, e.2.2⟩))
      w S
    rw [hsz] at hc
    refine hc.mono ?_
    rintro e w' (⟨rfl, S1, hcc⟩ | ⟨n, dk, rfl, hnl, hlt, hF⟩)
    · have hr := h.ofSwk hB S1 hsz (fun x hx => by rw [← hd0]; exact hx)
      refine ⟨_, rfl, ?_, hr.2⟩
      rw [← hcmap, hcc]
      exact hr.1
    · refine ⟨_, rfl, ?_, hF.2.1⟩
      rw [← hcmap, ← hF.2.2, List.map_take]
      exact hF.1
end Go.Proofs.YtplafpokgpolkaaGreatDoor
/- slices.Clone of Members. -/
namespace Go.Proofs.YtplafpokgpolkaaGreatDoor
open Go.RowKit
theorem nilMb (p : Addr) (n cap : Nat) (w : World) : (binOp .eql 35 (.slice (some p) n cap) (.slice none 0 0)).run Tryz.prog w = .ok (.bool false) w := by kernel_rfl
theorem nilMb' (w : World) : (binOp .eql 35 (.slice none 0 0) (.slice none 0 0)).run Tryz.prog w = .ok (.bool true) w := by kernel_rfl
set_option maxHeartbeats 1000000 in
set_option maxRecDepth 100000 in
theorem clM_own (v : Value) (l : List Mv) (w : World) (K : Nat → Prop) (hK : ∀ b, K b → b < w.heap.size) (hr : Mbs w (· < w.heap.size) K v l) (hl : l.length ≤ 1000000) :
    Calls Tryz.prog 22 #[v] w fun e w' => ∃ v', e = .returned v' ∧ RowM w.heap.size K w' v' l ∧ Below w.heap.size w w' := by
  obtain ⟨a, cap, hv, h1, h2, h3⟩ := hr.rd.shape
  have HR := Keep.keep hr
  have HK := Keep.keep hK
  clear hr hK
  unfold maxLen at h2
  subst hv
  obtain ⟨n, hn⟩ : ∃ n, l.length = n := ⟨_, rfl⟩
  have HN := Keep.keep hn
  rw [hn] at hl h1 HR ⊢
  clear hn
  cases a with
  | none =>
    obtain ⟨rfl, rfl⟩ : n = 0 ∧ cap = 0 := by
      rcases h3 with h3 | ⟨b, off, h3, _⟩
      · omega
      · cases h3
    have hnil := nilMb'
    clear h3
    go_enter Tryz.func22, Tryz.ntmps22
    go_wp2_with fail
    go_ret
    have hl0 : l = [] := List.eq_nil_of_length_eq_zero HN.out
    refine ⟨_, rfl, ?_, Below.refl _ _⟩
    rw [hl0]
    exact RowM.nil _ _ _
  | some p =>
    have hnil := nilMb p n cap
    clear h3
    go_enter Tryz.func22, Tryz.ntmps22
    go_wp2_with (with_reducible refine arm_stop ?_)
    refine Stopped.out ?_
    have HB : Below w.heap.size w (w.alloc (.cells [].toArray 32)) := (Below.refl _ _).alloc (Nat.le_refl _) _
    refine arm_appM (B := w.heap.size) (K := K) (l := []) (l2 := l) (N := (· < w.heap.size)) (N' := K) (⟨ownsV_new (base := w.heap.size) 32 [] 9 0 w.heap.size rfl (Nat.le_refl _) rfl (by unfold maxLen; omega), fun x hx => (List.not_mem_nil hx).elim⟩ : RowM w.heap.size K (w.alloc (.cells [].toArray 32)) (.slice (some ⟨w.heap.size, 0, none⟩) 0 0) [])
      (by simp) (HR.out.below HB (fun b hb => hb) HK.out) (fun b hb => ⟨.inl hb, by have := HK.out b hb; simp; omega, fun e => by have := HK.out b hb; simp only [Value.ownBlock, Option.some.injEq] at e; omega⟩) (by have := HN.out; simp; omega) rfl rfl ?_
    intro v1 w1 ho hg hb hsv
    rw [List.nil_append] at ho
    have HO := Keep.keep ho
    have HG : Keep (Below w.heap.size w w1) := ⟨HB.grown hg (by simp) (fun j hj => by
      simp only [Value.ownBlock, Option.some.injEq] at hj; omega)⟩
    clear ho hg hb HB
    obtain ⟨a1, c1, hv1⟩ := hsv
    subst hv1
    simp only [Act.put, List.setIfInBounds_toArray, List.set_cons_succ, List.set_cons_zero]
    go_wp2_with fail
    go_ret
    exact ⟨_, rfl, HO.out, HG.out⟩
end Go.Proofs.YtplafpokgpolkaaGreatDoor
/- change.Sorted. -/
namespace Go.Proofs.YtplafpokgpolkaaGreatDoor
open Go.RowKit
set_option maxHeartbeats 1000000 in
set_option maxRecDepth 100000 in
theorem sorted_any (v : Value) (l : List Mv) (w : World) (K : Nat → Prop) (hK : ∀ b, K b → b < w.heap.size) (hr : Mbs w (· < w.heap.size) K v l) (hl : l.length ≤ 1000000) :
    Calls Tryz.prog 24 #[v] w fun e w' => ∃ v', e = .returned v' ∧ RowM w.heap.size K w' v' (l.mergeSort (leK (fun x => x.1.1))) ∧ Below w.heap.size w w' := by
  obtain ⟨a, cap, hv, -, -, -⟩ := hr.rd.shape
  subst hv
  have hc := Keep.keep (clM_own _ l w K hK hr hl)
  have HL := Keep.keep hl
  obtain ⟨n, hn⟩ : ∃ n, n = l.length := ⟨_, rfl⟩
  rw [← hn] at hc ⊢
  clear hK hr hl hn
  go_enter Tryz.func24, Tryz.ntmps24
  go_wp2_with fail
  refine (hc.out).mono ?_
  rintro e w1 ⟨v1, rfl, hr1, hb1⟩
  obtain ⟨a1, c1, hv1, -⟩ := (ownsV_reads hr1.own).shape
  subst hv1
  have hs := Keep.keep (stable_mb w.heap.size K _ l w1 hb1.size hr1 (by have := HL.out; omega))
  have HB1 := Keep.keep hb1
  obtain ⟨n2, hn2⟩ : ∃ n, n = l.length := ⟨_, rfl⟩
  rw [← hn2] at hs ⊢
  clear hr1 hb1 hn2 hc
  go_wp2_with fail
  refine (hs.out).mono ?_
  rintro e w2 ⟨rfl, hr2, hb2⟩
  have HR2 := Keep.keep hr2
  have HB2 := Keep.keep hb2
  clear hr2 hb2 hs
  go_wp2
  go_ret
  exact ⟨_, rfl, HR2.out, HB1.out.trans HB2.out⟩
end Go.Proofs.YtplafpokgpolkaaGreatDoor
/- portolanlaw19.Grown. -/
namespace Go.Proofs.YtplafpokgpolkaaGreatDoor
open Go.RowKit
theorem RowM.weak {B B' : Nat} {K K' : Nat → Prop} {w : World} {v : Value} {l : List Mv} (h : RowM B K w v l) (hB : B' ≤ B) (hK : ∀ b, (K b ∨ B ≤ b) → (K' b ∨ B' ≤ b)) : RowM B' K' w v l :=
  ⟨ownsRow_base h.own hB, fun x hx => (h.nd x hx).mono (fun b e => ⟨hK b e.1, e.2⟩)⟩
theorem own_loc {base k n : Nat} {e : TypeId} {w w' : World} {v : Value} {vs : List Value} {r : Option Nat} (h : w.ownsRow base e k v n vs) (hg : w.grownBy w' r) (hne : ∀ b, v.ownBlock = some b → r ≠ some b) : w'.ownsRow base e k v n vs :=
  ownsRow_loc _ _ (fun b hb => hg.block b (ownsV_lt h b hb).2 (fun e => hne b hb e.symm)) h
set_option maxHeartbeats 8000000 in
set_option maxRecDepth 100000 in
theorem grown19K (v : Value) (l : List Mv) (w : World) (K : Nat → Prop) (hK : ∀ b, K b → b < w.heap.size) (hr : Mbs w (· < w.heap.size) K v l) :
    Calls Tryz.prog 40 #[v] w fun e w' => ∃ v' l', e = .returned v' ∧ l'.map (·.1) = grown19 (l.map (·.1)) ∧ RowM w.heap.size K w' v' l' ∧ Below w.heap.size w w' := by
  have HK := Keep.keep hK
  obtain ⟨a, cap, hv, -, -, -⟩ := hr.rd.shape
  have HF := Keep.keep (few19K v l w K hK hr)
  obtain ⟨S, hS⟩ : ∃ S, few19 (l.map (·.1)) = S := ⟨_, rfl⟩
  have HSF : Keep (few19 S = S ∧ S.length ≤ 14 ∧ (∀ m ∈ S, (aboveP m.1).length ≤ 19) ∧ (∀ m ∈ S, m.1.length ≤ 300) ∧ grown19 (l.map (·.1)) = sortedS (S ++ S.flatMap abvM)) := ⟨by rw [← hS, few19_idem], by rw [← hS]; exact few19_len _, by rw [← hS]; exact fun m hm => few19_abv hm, by
    rw [← hS]; intro m hm; obtain ⟨y, -, rfl⟩ := List.mem_map.1 hm; exact shortS_len _, by unfold grown19; rw [hS]⟩
  rw [hS] at HF
  rw [HSF.out.2.2.2.2]
  clear hr hS hK
  subst hv
  go_enter Tryz.func40, Tryz.ntmps40
  go_wp2_with fail
  refine HF.out.mono ?_
  rintro e w1 ⟨v1, l1, rfl, hS1, hr1, hb1⟩
  have HS1 := Keep.keep hS1
  have HR1 := Keep.keep hr1
  have HB1 := Keep.keep hb1
  have HM1 : Keep (MbL w1 v1 l1) := ⟨MbL.ofRow hr1⟩
  obtain ⟨a1, c1, hv1, -⟩ := HM1.out.rd.shape
  clear hS1 hr1 hb1 HF
  have HF2 := Keep.keep (few19K v1 l1 w1 (· < w1.heap.size) (fun _ h => h) HM1.out)
  rw [HS1.out, HSF.out.1] at HF2
  obtain ⟨n1, hn1⟩ : ∃ n, l1.length = n := ⟨_, rfl⟩
  have HN1 : Keep (l1.length = n1 ∧ n1 ≤ 14) := ⟨hn1, by have := HSF.out.2.1; rw [← HS1.out, List.length_map] at this; omega⟩
  rw [hn1] at hv1
  clear hn1
  subst hv1
  go_wp2_with fail
  refine HF2.out.mono ?_
  rintro e w2 ⟨v2, l2, rfl, hS2, hr2, hb2⟩
  have HS2 := Keep.keep hS2
  have HR2 := Keep.keep (hr2.own)
  have HND2 : Keep (∀ x ∈ l2, NdS x) := ⟨fun x hx => (hr2.nd x hx).shape⟩
  have HB2 := Keep.keep (HB1.out.trans (hb2.mono HB1.out.size))
  have HR1' := Keep.keep (HR1.out.below hb2)
  have HW12 : Keep (w.heap.size ≤ w1.heap.size ∧ w1.heap.size ≤ w2.heap.size) := ⟨HB1.out.size, hb2.size⟩
  have HDJ : Keep (∀ b, v2.ownBlock = some b → (Value.slice a1 n1 c1).ownBlock ≠ some b) := ⟨fun b hb e => by
    have h1 := (hr2.lt hb).1
    have h2 := (HR1.out.lt e).2
    omega⟩
  obtain ⟨a2, c2, hv2, -⟩ := (ownsV_reads hr2.own).shape
  obtain ⟨n2, hn2⟩ : ∃ n, l2.length = n := ⟨_, rfl⟩
  have HN2 : Keep (l2.length = n2 ∧ S.length = n2 ∧ n2 ≤ 14) := ⟨hn2, by rw [← hS2, List.length_map]; exact hn2, by have := HSF.out.2.1; rw [← hS2, List.length_map] at this; omega⟩
  rw [hn2] at hv2 HR2
  have hn2b : n2 ≤ 14 := HN2.out.2.2
  clear hS2 hr2 hb2 HF2 HM1 HR1 hn2
  subst hv2
  go_wp2_with fail
  go_loopg [0, 12] n2 (fun g u0 u12 wx => ∃ (k : Nat) (acc : List Mv), k + g = n2 ∧ u12 = .int .i64 (k : Int) ∧ acc.map (·.1) = S ++ (S.take k).flatMap abvM ∧ acc.length ≤ 14 + k * 19 ∧ RowM w.heap.size K wx u0 acc ∧ wx.ownsRow w1.heap.size 32 9 (.slice a2 n2 c2) n2 (mcells l2) ∧ (∀ b, (Value.slice a2 n2 c2).ownBlock = some b → u0.ownBlock ≠ some b) ∧ Below w.heap.size w wx)
  case atStart => exact ⟨0, l1, by omega, rfl, by simpa using HS1.out, by have := HN1.out; omega, HR1'.out, HR2.out, HDJ.out, HB2.out⟩
  case round =>
    clear HR2 HDJ HB2 HR1'
    obtain ⟨k, acc, hkg, rfl, hmap, hal, hrow, hown, hdj, hbl⟩ := hrel
    have HM := Keep.keep hmap; have HR := Keep.keep hrow; have HO := Keep.keep hown; have HD := Keep.keep hdj; have HB := Keep.keep hbl
    obtain ⟨a0, c0, hu0, -⟩ := (ownsV_reads hrow.own).shape
    obtain ⟨n0, hn0⟩ : ∃ n, acc.length = n := ⟨_, rfl⟩
    have HN0 : Keep (acc.length = n0) := ⟨hn0⟩
    rw [hn0] at hu0 hal
    clear hmap hrow hown hdj hbl hn0
    subst hu0
    cases gk with
    | zero =>
      obtain rfl : k = n2 := by omega
      have HFM : Keep (acc.map (·.1) = S ++ S.flatMap abvM) := ⟨by rw [HM.out, ← HN2.out.2.1, List.take_length]⟩
      go_wp2_with fail
      refine (sorted_any _ acc wr _ (fun _ h => h.2.1) (HR.out.mbs.mono (fun _ hb => hb.2) (fun _ hb => hb)) (by rw [HN0.out]; omega)).mono ?_
      rintro e w5 ⟨v5, rfl, hr5, hb5⟩
      have HR5 := Keep.keep hr5
      have HB5 := Keep.keep hb5
      obtain ⟨a5, c5, hv5, -⟩ := (ownsV_reads hr5.own).shape
      rw [List.length_mergeSort, HN0.out] at hv5
      have HC5 := Keep.keep (compact_mb _ _ v5 _ w5 hb5.size hr5 (by rw [List.length_mergeSort, HN0.out]; omega))
      clear hr5 hb5
      subst hv5
      go_wp2_with fail
      refine HC5.out.mono ?_
      rintro e w6 ⟨v6, rfl, hr6, hb6⟩
      obtain ⟨a6, c6, hv6, -⟩ := (ownsV_reads hr6.own).shape
      have HR6 := Keep.keep hr6
      have HB6 := Keep.keep hb6
      have hcm : (compA (fun x : Mv => x.1.1) (acc.mergeSort (leK (fun x => x.1.1)))).map (·.1) = sortedS (S ++ S.flatMap abvM) := by rw [comp_map, HFM.out]
      have HCM := Keep.keep hcm
      obtain ⟨n6, hn6⟩ : ∃ n, (compA (fun x : Mv => x.1.1) (acc.mergeSort (leK (fun x => x.1.1)))).length = n := ⟨_, rfl⟩
      rw [hn6] at hv6
      clear hr6 hb6 hcm hn6 HC5 HR5
      subst hv6
      go_wp2_with fail
      go_ret
      have hw := HB.out.size
      refine ⟨_, _, rfl, HCM.out, HR6.out.weak hw (fun b hb => by
        rcases hb with hb | hb
        · exact hb.1
        · exact .inr (Nat.le_trans hw hb)), HB.out.trans ((HB5.out.trans HB6.out).mono hw)⟩
    | succ g =>
      have hk : k < n2 := by omega
      have hkl : k < l2.length := by have := HN2.out.1; omega
      have hd : decide ((k : Int) < (n2 : Int)) = true := decide_eq_true (by omega)
      obtain ⟨g2, rfl⟩ : ∃ g2, a2 = some ⟨g2, 0, none⟩ := by
        rcases HO.out.2 with ⟨h1, h2⟩ | ⟨g', cap', cur, h1, -⟩
        · omega
        · injection h1 with h1; exact ⟨g', h1⟩
      have hld := own_loadAt HO.out (HN2.out.1.symm) (List.getElem?_eq_getElem hkl)
      have hkS : k < S.length := by have := HN2.out.2.1; omega
      have hSk : S[k] = l2[k].1 := by simp [← HS2.out]
      have HTK : Keep ((S.take (k + 1)).flatMap abvM = (S.take k).flatMap abvM ++ abvM l2[k].1) := ⟨by
        rw [List.take_succ_eq_append_getElem hkS, List.flatMap_append, hSk]; simp⟩
      have HXP : Keep ((aboveP l2[k].1.1).length ≤ 19 ∧ l2[k].1.1.length ≤ 300) := ⟨by rw [← hSk]; exact HSF.out.2.2.1 _ (List.getElem_mem hkS), by rw [← hSk]; exact HSF.out.2.2.2.1 _ (List.getElem_mem hkS)⟩
      have hsh := HND2.out l2[k] (List.getElem_mem hkl)
      clear hkS hSk
      generalize l2[k] = x at *
      obtain ⟨⟨xp, ⟨kind, mode, uid, gid, time, attrs, data, link⟩⟩, av, dv⟩ := x
      obtain ⟨aa, la, ca, ad, ld, cd, e1, e2⟩ := hsh
      dsimp only at e1 e2 HXP HTK
      subst e1 e2
      have HMC : Keep (mcell ((xp, ⟨kind, mode, uid, gid, time, attrs, data, link⟩), .slice aa la ca, .slice ad ld cd) = #[.string ⟨xp.toArray⟩, .int .i64 kind, .int .u32 mode, .int .u32 uid, .int .u32 gid, .int .i64 time, .slice aa la ca, .slice ad ld cd, .string ⟨link.toArray⟩]) := ⟨rfl⟩
      rw [HMC.out] at hld
      have HAB := Keep.keep (fun wx => above_any xp (by have := HXP.out.2; omega) wx)
      have HAE : Keep (abvM (xp, ⟨kind, mode, uid, gid, time, attrs, data, link⟩) = (aboveP xp).map fun p => (p, dirM 493)) := ⟨rfl⟩
      have HPL : Keep (∀ q ∈ aboveP xp, q.length ≤ 300) := ⟨fun q hq => Nat.le_trans (above_len _ _ hq) HXP.out.2⟩
      rw [HAE.out] at HTK
      have HAL : Keep ((aboveP xp).length ≤ 19) := ⟨HXP.out.1⟩
      clear HAE HXP
      generalize aboveP xp = Q at *
      go_upto_region 5 with ((with_reducible refine arm_loadM hld ?_ ?_); (focus rfl); simp only [Act.put, List.setIfInBounds_toArray, List.set_cons_succ, List.set_cons_zero])
      refine wp_world (R := fun wq => Hp NoM wr wq [rowA wr.heap.size 32 #[.string ⟨xp.toArray⟩, .int .i64 kind, .int .u32 mode, .int .u32 uid, .int .u32 gid, .int .i64 time, .slice aa la ca, .slice ad ld cd, .string ⟨link.toArray⟩]]) ((Hp.begin NoM wr).newRow _ _) ?_
      intro w3 H3
      obtain ⟨b4, hb4⟩ : ∃ b4, wr.heap.size = b4 := ⟨_, rfl⟩
      have HB3 := Keep.keep H3.out.below
      rw [hb4] at H3 ⊢
      have c40 := (H3.out.row 0 rfl).cell (i := 0) rfl
      clear hld hb4 H3
      go_wp2_with fail
      refine (HAB.out w3).mono ?_
      rintro e w4 ⟨v4, rfl, ho4, hb4⟩
      have hb34 := HB3.out.trans (hb4.mono HB3.out.size)
      have HO4 := Keep.keep ho4
      have HR4 := Keep.keep (HR.out.below hb34)
      have HO2 := Keep.keep (ownsRow_loc _ _ (fun b hb => hb34.block b (ownsV_lt HO.out b hb).2) HO.out)
      have HB4 := Keep.keep (HB.out.trans (hb34.mono HB.out.size))
      have HSZ3 : Keep (wr.heap.size ≤ w3.heap.size ∧ w3.heap.size ≤ w4.heap.size) := ⟨HB3.out.size, hb4.size⟩
      have HD4 : Keep (∀ b, v4.ownBlock = some b → (Value.slice a0 n0 c0).ownBlock ≠ some b) := ⟨fun b hb e => by
        have h1 := (ownsV_lt ho4 b hb).1
        have h2 := (HR.out.lt e).2
        have := HSZ3.out.1
        omega⟩
      obtain ⟨a4, c4, hv4, -⟩ := (ownsV_reads ho4).shape
      obtain ⟨n4, hn4⟩ : ∃ n, Q.length = n := ⟨_, rfl⟩
      have HN4 := Keep.keep hn4
      have hn19 : n4 ≤ 19 := by have := HAL.out; omega
      unfold OwnS at HO4
      rw [hn4] at hv4 HO4
      clear ho4 hb4 hb34 hn4 c40 HR HO HB HAB
      subst hv4
      go_wp2_with fail
      go_loopg [0, 20] n4 (fun q u0 u20 wx => ∃ (i : Nat) (ac2 : List Mv), i + q = n4 ∧ u20 = .int .i64 (i : Int) ∧ ac2.map (·.1) = acc.map (·.1) ++ (Q.take i).map (fun p => (p, dirM 493)) ∧ ac2.length = n0 + i ∧ RowM w.heap.size K wx u0 ac2 ∧ wx.ownsRow w1.heap.size 32 9 (.slice (some ⟨g2, 0, none⟩) n2 c2) n2 (mcells l2) ∧ wx.ownsRow w3.heap.size 9 1 (.slice a4 n4 c4) n4 (Q.map strV) ∧ (∀ b, (Value.slice (some ⟨g2, 0, none⟩) n2 c2).ownBlock = some b → u0.ownBlock ≠ some b) ∧ (∀ b, (Value.slice a4 n4 c4).ownBlock = some b → u0.ownBlock ≠ some b) ∧ Below w.heap.size w wx)
      case atStart => exact ⟨0, acc, by omega, rfl, by simp, HN0.out, HR4.out, HO2.out, HO4.out, HD.out, HD4.out, HB4.out⟩
      case round =>
        clear HR4 HO2 HO4 HD HD4 HB4
        obtain ⟨i, ac2, hiq, rfl, hmap, hal2, hrow, hown, hown4, hdj, hdj4, hbl⟩ := hrel
        have HM2 := Keep.keep hmap; have HR := Keep.keep hrow; have HO := Keep.keep hown; have HO4 := Keep.keep hown4; have HD := Keep.keep hdj; have HD4 := Keep.keep hdj4; have HB := Keep.keep hbl
        obtain ⟨a9, c9, hu0, -⟩ := (ownsV_reads hrow.own).shape
        rw [hal2] at hu0
        have HA2 := Keep.keep hal2
        clear hmap hrow hown hown4 hdj hdj4 hbl hal2
        subst hu0
        cases gk with
        | zero =>
          obtain rfl : i = n4 := by omega
          have HQ : Keep (ac2.map (·.1) = S ++ (S.take (k + 1)).flatMap abvM) := ⟨by rw [HM2.out, HM.out, HTK.out, ← HN4.out, List.take_length, List.append_assoc]⟩
          have HAA : Keep (ac2.length ≤ 14 + (k + 1) * 19) := ⟨by rw [HA2.out]; omega⟩
          go_wp2_with fail
          go_roundg g
          case measure => omega
          case rel => exact ⟨k + 1, ac2, by omega, by simp, HQ.out, HAA.out, HR.out, HO.out, HD.out, HB.out⟩
        | succ q =>
          have hi4 : i < n4 := by omega
          have hiQ : i < Q.length := by have := HN4.out; omega
          have hd2 : decide ((i : Int) < (n4 : Int)) = true := decide_eq_true (by omega)
          obtain ⟨g4, rfl⟩ : ∃ g4, a4 = some ⟨g4, 0, none⟩ := by
            rcases HO4.out.2 with ⟨h1, h2⟩ | ⟨g', cap', cur, h1, -⟩
            · omega
            · injection h1 with h1; exact ⟨g', h1⟩
          have hc4 := (ownsV_reads HO4.out).cell g4 0 _ _ rfl i (strV Q[i]) (by simp [hiQ])
          rw [Nat.zero_add] at hc4
          have HTQ : Keep ((Q.take (i + 1)).map (fun p => ((p, dirM 493) : Mb)) = (Q.take i).map (fun p => (p, dirM 493)) ++ [(Q[i], dirM 493)]) := ⟨by
            rw [List.take_succ_eq_append_getElem hiQ, List.map_append]; rfl⟩
          generalize Q[i] = qp at *
          unfold strV at hc4
          go_wp2_with fail
          refine (dir_any qp 493 _).mono ?_
          rintro e w7 ⟨rfl, hb7⟩
          have HR7 := Keep.keep (HR.out.below hb7)
          have HO7 := Keep.keep (ownsRow_loc _ _ (fun b hb => hb7.block b (ownsV_lt HO.out b hb).2) HO.out)
          have HO47 := Keep.keep (ownsRow_loc _ _ (fun b hb => hb7.block b (ownsV_lt HO4.out b hb).2) HO4.out)
          have HB7 := Keep.keep (HB.out.trans (hb7.mono HB.out.size))
          have HSW : Keep (wr.heap.size ≤ w7.heap.size) := ⟨hb7.size⟩
          clear hb7 hc4 HO HO4 HB
          go_wp2_with (with_reducible refine arm_stop ?_)
          refine Stopped.out ?_
          have hal : Below w7.heap.size w7 (w7.alloc (.cells #[.string ⟨qp.toArray⟩, .int .i64 1, .int .u32 493, .int .u32 0, .int .u32 0, .int .i64 0, .slice none 0 0, .slice none 0 0, .string ⟨#[]⟩] 32)) := (Below.refl _ _).alloc (Nat.le_refl _) _
          have hrA := HR7.out.below hal
          have hws := HB7.out.size
          have hwA := hal.size
          have hm : Mbs (w7.alloc (.cells #[.string ⟨qp.toArray⟩, .int .i64 1, .int .u32 493, .int .u32 0, .int .u32 0, .int .i64 0, .slice none 0 0, .slice none 0 0, .string ⟨#[]⟩] 32)) (fun _ => True) NoM (.slice (some ⟨w7.heap.size, 0, none⟩) 1 1) [((qp, dirM 493), nilV, nilV)] :=
            ⟨RdV.new (N := fun _ => True) 32 [.string ⟨qp.toArray⟩, .int .i64 1, .int .u32 493, .int .u32 0, .int .u32 0, .int .i64 0, .slice none 0 0, .slice none 0 0, .string ⟨#[]⟩] 9 1 _ rfl rfl (by unfold maxLen; omega) trivial, fun z hz => by
              obtain rfl : z = ((qp, dirM 493), nilV, nilV) := by simpa using hz
              exact ndR_nil rfl rfl⟩
          refine arm_appM (B := w.heap.size) hrA (by omega) hm (fun b hb => hb.elim) (by rw [HA2.out]; simp; omega) rfl rfl ?_
          intro v8 w8 hr8 hg8 hov8 hsh8
          obtain ⟨a8, c8, hv8⟩ := hsh8
          rw [HA2.out] at hv8
          replace hv8 : v8 = .slice a8 (n0 + i + 1) c8 := hv8
          have hx7 := HR.out.lt (b := 0)
          have HR8 := Keep.keep hr8
          have HO8 : Keep (w8.ownsRow w1.heap.size 32 9 (.slice (some ⟨g2, 0, none⟩) n2 c2) n2 (mcells l2)) := ⟨own_loc (ownsRow_loc _ _ (fun b hb => hal.block b (ownsV_lt HO7.out b hb).2) HO7.out) hg8 (fun b hb => HD.out b hb)⟩
          have HO48 : Keep (w8.ownsRow w3.heap.size 9 1 (.slice (some ⟨g4, 0, none⟩) n4 c4) n4 (Q.map strV)) := ⟨own_loc (ownsRow_loc _ _ (fun b hb => hal.block b (ownsV_lt HO47.out b hb).2) HO47.out) hg8 (fun b hb => HD4.out b hb)⟩
          have HD8 : Keep (∀ b, (Value.slice (some ⟨g2, 0, none⟩) n2 c2).ownBlock = some b → v8.ownBlock ≠ some b) := ⟨fun b hb => by
            rcases hov8 with e | e
            · rw [e]; exact HD.out b hb
            · rw [e]; intro e2; injection e2 with e2; have := (ownsV_lt HO7.out b hb).2; omega⟩
          have HD48 : Keep (∀ b, (Value.slice (some ⟨g4, 0, none⟩) n4 c4).ownBlock = some b → v8.ownBlock ≠ some b) := ⟨fun b hb => by
            rcases hov8 with e | e
            · rw [e]; exact HD4.out b hb
            · rw [e]; intro e2; injection e2 with e2; have := (ownsV_lt HO47.out b hb).2; omega⟩
          have HB8 : Keep (Below w.heap.size w w8) := ⟨(HB7.out.trans (hal.mono hws)).trans (hrA.chg (by omega) hg8)⟩
          clear hr8 hg8 hov8 hm hrA hal hx7 HR7 HO7 HO47 HB7 HD HD4 HR
          rw [hv8] at HR8 HD8 HD48
          subst hv8
          simp only [Act.put, List.setIfInBounds_toArray, List.set_cons_succ, List.set_cons_zero]
          go_wp2_with fail
          go_roundg q
          case measure => omega
          case rel => exact ⟨i + 1, ac2 ++ [((qp, dirM 493), nilV, nilV)], by omega, by simp, by rw [List.map_append, HM2.out, HTQ.out, List.append_assoc]; rfl, by simp [HA2.out]; omega, HR8.out, HO8.out, HO48.out, HD8.out, HD48.out, HB8.out⟩
theorem grown19_any (v : Value) (l : List Mv) (w : World) (hr : Mbs w (· < w.heap.size) (· < w.heap.size) v l) :
    Calls Tryz.prog 40 #[v] w fun e w' => ∃ v' l', e = .returned v' ∧ l'.map (·.1) = grown19 (l.map (·.1)) ∧ RowM w.heap.size (· < w.heap.size) w' v' l' ∧ Below w.heap.size w w' := grown19K v l w _ (fun _ h => h) hr
end Go.Proofs.YtplafpokgpolkaaGreatDoor
/- portolanlaw19.Tree. -/
namespace Go.Proofs.YtplafpokgpolkaaGreatDoor
open Go.RowKit
def stepP (L : List Mb) (m : Mb) : List Mb := (putT L m).2
def tree19 (l : List Mb) : List Mb := (grown19 l).foldl stepP []
theorem put_len1 {L : List Mb} (h : SM.Srt L) (m : Mb) : (putT L m).2.length ≤ L.length + 1 := by
  unfold putT
  split
  · simp
  · split
    · simp
    · split
      · simp
      · show (SM.put _ m).length ≤ _
        have hc : (clearT L m.1).length ≤ L.length := List.length_filter_le _ _
        have hcs : SM.Srt (clearT L m.1) := List.Pairwise.filter _ h
        by_cases hk : m.2.kind = 1
        · rw [if_pos hk, h.length_put]; split <;> omega
        · rw [if_neg hk, hcs.length_put]; split <;> omega
theorem RowM.locM {B : Nat} {K : Nat → Prop} {w w' : World} {v : Value} {l : List Mv} (h : RowM B K w v l) (hs : w.heap.size ≤ w'.heap.size) (hb : ∀ b, (K b ∨ B ≤ b) → b < w.heap.size → w'.heap[b]? = w.heap[b]?) : RowM B K w' v l :=
  ⟨ownsRow_loc _ _ (fun b e => hb b (.inr (h.lt e).1) (h.lt e).2) h.own, fun x hx => ((h.nd x hx).loc (fun b e => hb b e.1 e.2.1)).mono (fun _b e => ⟨e.1, Nat.lt_of_lt_of_le e.2.1 hs, e.2.2⟩)⟩
set_option maxHeartbeats 4000000 in
set_option maxRecDepth 100000 in
theorem tree19_any (B : Nat) (v : Value) (l : List Mv) (w : World) (hT : Tabs B w) (hr : Mbs w (· < w.heap.size) (· < w.heap.size) v l) (hk : ∀ x ∈ l, Kb x.1) :
    Calls Tryz.prog 29 #[v] w fun e w' => ∃ T mb Bk f, e = .returned (.pointer (some ⟨T, 0, none⟩)) ∧ TreeIn w' T mb Bk f (tree19 (l.map (·.1))) ∧ (w.heap.size ≤ T ∧ w.heap.size ≤ mb ∧ ∀ b, Bk b → Fresh w.heap.size w' b) ∧ Below w.heap.size w w' := by
  obtain ⟨a, cap, hv, -, -, -⟩ := hr.rd.shape
  have HT := Keep.keep hT
  have HR := Keep.keep hr
  have HNEW := Keep.keep (new_tree (.slice none 0 0) [] B w hT ⟨RdV.ofNil, fun x hx => by simp at hx⟩ (fun x hx => by simp at hx) (by simp))
  obtain ⟨G, hG⟩ : ∃ G, grown19 (l.map (·.1)) = G := ⟨_, rfl⟩
  have HG : Keep (tree19 (l.map (·.1)) = G.foldl stepP [] ∧ G.length ≤ 280 ∧ ∀ x ∈ G, Sm x) := ⟨by unfold tree19; rw [hG], by rw [← hG]; exact grown19_len _, by rw [← hG]; exact grown19_sm (fun x hx => by obtain ⟨y, hy, rfl⟩ := List.mem_map.1 hx; exact hk y hy)⟩
  have HGR : Keep (∀ w1, Below w.heap.size w w1 → Calls Tryz.prog 40 #[v] w1 fun e w' => ∃ v' l', e = .returned v' ∧ l'.map (·.1) = G ∧ RowM w1.heap.size (· < w.heap.size) w' v' l' ∧ Below w1.heap.size w1 w') := ⟨fun w1 hb => by
    have h := grown19K v l w1 (· < w.heap.size) (fun _ h => Nat.lt_of_lt_of_le h hb.size) ((HR.out.below hb (fun _ h => h) (fun _ h => h)).mono (fun _ h => Nat.lt_of_lt_of_le h hb.size) (fun _ h => h))
    rw [hG] at h
    exact h⟩
  rw [HG.out.1]
  clear hT hr hk hG HR
  subst hv
  go_enter Tryz.func29, Tryz.ntmps29
  go_wp2_with fail
  refine HNEW.out.mono ?_
  rintro e w1 ⟨⟨pv, rfl, hnew⟩, hb1⟩
  obtain ⟨T, mb, Bk, f, rfl, hti, hTw, hmw, hBk⟩ := hnew
  have HTI := Keep.keep hti; have HB1 := Keep.keep hb1; have HBK := Keep.keep hBk
  have HLT : Keep (T < w1.heap.size ∧ mb < w1.heap.size ∧ w.heap.size ≤ w1.heap.size) := ⟨hti.row.lt, hti.map.lt, hb1.size⟩
  have HG1 := Keep.keep (HGR.out w1 hb1)
  clear hti hb1 hBk HNEW HGR
  go_wp2_with fail
  refine HG1.out.mono ?_
  rintro e w2 ⟨v2, l2, rfl, hl2, hr2, hb2⟩
  have HR2 := Keep.keep hr2
  have HL2 : Keep (l2.map (·.1) = G ∧ l2.length ≤ 280) := ⟨hl2, by have := HG.out.2.1; rw [← hl2, List.length_map] at this; exact this⟩
  have HTI2 : Keep (TreeIn w2 T mb Bk f []) := ⟨HTI.out.loc (fun b hb => hb2.block b (by
    rcases hb with rfl | rfl | h
    · exact HLT.out.1
    · exact HLT.out.2.1
    · exact (HBK.out b h).2))⟩
  have HBK2 : Keep (∀ b, Bk b → Fresh w.heap.size w2 b) := ⟨fun b h => ⟨(HBK.out b h).1, Nat.lt_of_lt_of_le (HBK.out b h).2 hb2.size⟩⟩
  have HB2 := Keep.keep (HB1.out.trans (hb2.mono HB1.out.size))
  obtain ⟨a2, c2, hv2, -⟩ := (ownsV_reads hr2.own).shape
  obtain ⟨n2, hn2⟩ : ∃ n, l2.length = n := ⟨_, rfl⟩
  have HN2 := Keep.keep hn2
  have hn280 : n2 ≤ 280 := by have := HL2.out.2; omega
  rw [hn2] at hv2
  clear hl2 hr2 hb2 HG1 HTI HB1 HBK hn2
  subst hv2
  go_wp2_with fail
  go_loopg [14] n2 (fun g u14 wx => ∃ (k : Nat) (Bk : Nat → Prop) (f : Tx → Value × Value), k + g = n2 ∧ u14 = .int .i64 (k : Int) ∧ TreeIn wx T mb Bk f ((G.take k).foldl stepP []) ∧ ((G.take k).foldl stepP []).length ≤ k ∧ (∀ b, Bk b → Fresh w.heap.size wx b) ∧ RowM w1.heap.size (· < w.heap.size) wx (.slice a2 n2 c2) l2 ∧ Below w.heap.size w wx)
  case atStart => exact ⟨0, Bk, f, by omega, rfl, HTI2.out, Nat.le_refl _, HBK2.out, HR2.out, HB2.out⟩
  case round =>
    clear HR2 HTI2 HBK2 HB2
    obtain ⟨k, Bk2, f2, hkg, rfl, hti, hlen, hbk, hrow, hb⟩ := hrel
    have HT2 := Keep.keep hti; have HBK2 := Keep.keep hbk; have HB2 := Keep.keep hb; have HR2 := Keep.keep hrow
    clear hti hbk hb hrow
    cases gk with
    | zero =>
      obtain rfl : k = n2 := by omega
      have HF : Keep (G.take k = G) := ⟨by rw [List.take_of_length_le]; rw [← HL2.out.1, List.length_map, HN2.out]; exact Nat.le_refl _⟩
      rw [HF.out] at HT2
      go_wp2_with fail
      go_ret
      exact ⟨T, mb, Bk2, f2, rfl, HT2.out, ⟨hTw, hmw, HBK2.out⟩, HB2.out⟩
    | succ g =>
      have hk : k < n2 := by omega
      have hkl : k < l2.length := by have := HN2.out; omega
      have hd : decide ((k : Int) < (n2 : Int)) = true := decide_eq_true (by omega)
      obtain ⟨g2, rfl⟩ : ∃ g2, a2 = some ⟨g2, 0, none⟩ := by
        rcases HR2.out.own.2 with ⟨h1, h2⟩ | ⟨g', cap', cur, h1, -⟩
        · omega
        · injection h1 with h1; exact ⟨g', h1⟩
      have hown := HR2.out.own
      rw [HN2.out] at hown
      have hld := own_loadAt hown (HN2.out.symm) (List.getElem?_eq_getElem hkl)
      have hkG : k < G.length := by rw [← HL2.out.1, List.length_map]; exact hkl
      have hGk : G[k] = l2[k].1 := by simp [← HL2.out.1]
      have HTK : Keep ((G.take (k + 1)).foldl stepP [] = stepP ((G.take k).foldl stepP []) l2[k].1) := ⟨by
        rw [List.take_succ_eq_append_getElem hkG, List.foldl_append, hGk]; rfl⟩
      have hsm := HG.out.2.2 _ (List.getElem_mem hkG)
      rw [hGk] at hsm
      have HND := Keep.keep (HR2.out.nd l2[k] (List.getElem_mem hkl))
      clear hown hkG hGk
      generalize l2[k] = x at *
      obtain ⟨⟨xp, ⟨kind, mode, uid, gid, time, attrs, data, link⟩⟩, av, dv⟩ := x
      obtain ⟨aa, la, ca, ad, ld, cd, e1, e2⟩ := HND.out.shape
      dsimp only at e1 e2 hsm HTK
      subst e1 e2
      have HMC : Keep (mcell ((xp, ⟨kind, mode, uid, gid, time, attrs, data, link⟩), .slice aa la ca, .slice ad ld cd) = #[.string ⟨xp.toArray⟩, .int .i64 kind, .int .u32 mode, .int .u32 uid, .int .u32 gid, .int .i64 time, .slice aa la ca, .slice ad ld cd, .string ⟨link.toArray⟩]) := ⟨rfl⟩
      rw [HMC.out] at hld
      have HSM := Keep.keep hsm
      have HSZ : Keep ((#[.string ⟨xp.toArray⟩, .int .i64 kind, .int .u32 mode, .int .u32 uid, .int .u32 gid, .int .i64 time, .slice aa la ca, .slice ad ld cd, .string ⟨link.toArray⟩] : Array Value).size = 9) := ⟨rfl⟩
      clear hsm
      go_upto_region 5 with ((with_reducible refine arm_loadM hld ?_ ?_); (focus rfl); simp only [Act.put, List.setIfInBounds_toArray, List.set_cons_succ, List.set_cons_zero])
      refine wp_world (R := fun wq => Hp NoM wr wq [rowA wr.heap.size 32 #[.string ⟨xp.toArray⟩, .int .i64 kind, .int .u32 mode, .int .u32 uid, .int .u32 gid, .int .i64 time, .slice aa la ca, .slice ad ld cd, .string ⟨link.toArray⟩]]) ((Hp.begin NoM wr).newRow _ _) ?_
      intro w3 H3
      obtain ⟨b6, hb6⟩ : ∃ b6, wr.heap.size = b6 := ⟨_, rfl⟩
      have HB3 := Keep.keep H3.out.below
      rw [hb6] at H3 ⊢
      have HRW := Keep.keep (H3.out.row 0 rfl)
      clear hld hb6 H3
      have HB4 := Keep.keep (HB2.out.trans (HB3.out.mono HB2.out.size))
      have hsz3 := HB3.out.size
      have HT3 : Keep (TreeIn w3 T mb Bk2 f2 ((G.take k).foldl stepP [])) := ⟨HT2.out.loc (fun b hb => HB3.out.block b (by
        rcases hb with rfl | rfl | h
        · exact HT2.out.row.lt
        · exact HT2.out.map.lt
        · exact (HBK2.out b h).2))⟩
      have HPT := Keep.keep (put_tree T mb Bk2 f2 ((G.take k).foldl stepP []) B w3 HT3.out (fun b h => Nat.lt_of_lt_of_le (HBK2.out b h).2 hsz3) (by omega) (HT.out.on (HB4.out.mono HT.out.b)) (xp, ⟨kind, mode, uid, gid, time, attrs, data, link⟩) (.slice aa la ca) (.slice ad ld cd) HSM.out ((HND.out.below HB3.out (fun b hb => hb.2.1)).mono (fun b hb => ⟨Nat.lt_of_lt_of_le hb.2.1 hsz3, fun e => by
        have := HLT.out
        rcases hb.1 with h | h <;> omega⟩)))
      have HPT' : Keep (Calls Tryz.prog 72 #[.pointer (some ⟨T, 0, none⟩), .agg #[.string ⟨xp.toArray⟩, .int .i64 kind, .int .u32 mode, .int .u32 uid, .int .u32 gid, .int .i64 time, .slice aa la ca, .slice ad ld cd, .string ⟨link.toArray⟩]] w3 fun e w' => ∃ q, e = .returned (.int .i64 q) ∧ (∃ Bk' f', TreeIn w' T mb Bk' f' (stepP ((G.take k).foldl stepP []) (xp, ⟨kind, mode, uid, gid, time, attrs, data, link⟩)) ∧ ∀ b, Bk' b → Bk2 b ∨ Fresh w3.heap.size w' b) ∧ Chg (fun j => j = mb) w3.heap.size w3 w') := ⟨HPT.out.mono (fun e w' h => ⟨_, h.1, h.2⟩)⟩
      have HSL : Keep (SM.Srt ((G.take k).foldl stepP [])) := ⟨HT2.out.srt⟩
      clear HPT HND
      go_wp2_with ((with_reducible refine arm_loadRow HRW.out aggM HSZ.out ?_ ?_); (focus rfl); simp only [Act.put, List.setIfInBounds_toArray, List.set_cons_succ, List.set_cons_zero])
      refine HPT'.out.mono ?_
      rintro e w4 ⟨q, rfl, ⟨Bk', f', hti4, hbk4⟩, hch⟩
      have HT4 : Keep (TreeIn w4 T mb Bk' f' ((G.take (k + 1)).foldl stepP [])) := ⟨by rw [HTK.out]; exact hti4⟩
      have HLN : Keep (((G.take (k + 1)).foldl stepP []).length ≤ k + 1) := ⟨by rw [HTK.out]; exact Nat.le_trans (put_len1 HSL.out (xp, ⟨kind, mode, uid, gid, time, attrs, data, link⟩)) (by omega)⟩
      have hsw := HB2.out.size
      have HBK4 : Keep (∀ b, Bk' b → Fresh w.heap.size w4 b) := ⟨fun b h => by
        have := hch.size
        rcases hbk4 b h with h | h
        · exact ⟨(HBK2.out b h).1, by have := (HBK2.out b h).2; omega⟩
        · exact ⟨by have := h.1; omega, h.2⟩⟩
      have HR4 : Keep (RowM w1.heap.size (· < w.heap.size) w4 (.slice (some ⟨g2, 0, none⟩) n2 c2) l2) := ⟨(HR2.out.below HB3.out).locM hch.size (fun b hb hlt => hch.block b hlt (fun e => by
        have := HLT.out
        rcases hb with h | h <;> omega))⟩
      have HB5 : Keep (Below w.heap.size w w4) := ⟨HB4.out.trans ((hch.lower HB4.out.size).below (fun j hj e => by omega))⟩
      clear hti4 hbk4 hch HT3 HPT' HT2 HBK2 HR2 HB2 HB4 HRW
      go_wp2_with fail
      go_roundg g
      case measure => omega
      case rel => exact ⟨k + 1, Bk', f', by omega, by simp, HT4.out, HLN.out, HBK4.out, HR4.out, HB5.out⟩
end Go.Proofs.YtplafpokgpolkaaGreatDoor
/- ChangeLocal, plainly: a Dir's children taken away in any order. -/
namespace Go.Proofs.YtplafpokgpolkaaGreatDoor
theorem tree19_len (l : List Mb) : (tree19 l).length ≤ 280 := by
  have h : ∀ (G L : List Mb), WellL L → (G.foldl stepP L).length ≤ L.length + G.length := fun G => by
    induction G with
    | nil => intro L h; simp
    | cons x G ih =>
      intro L h
      have h1 := ih (stepP L x) (put_well h x)
      have h2 := put_len1 h.s x
      rw [List.foldl_cons, List.length_cons]
      exact Nat.le_trans h1 (by unfold stepP; omega)
  have h1 := h (grown19 l) [] ⟨SM.Srt.nil, fun x hx => by simp at hx, fun x hx => by simp at hx⟩
  have h2 := grown19_len l
  unfold tree19
  simp at h1
  omega
end Go.Proofs.YtplafpokgpolkaaGreatDoor
/- portolanlaw19: calls of the chapter as they are gone on. -/
namespace Go.Proofs.YtplafpokgpolkaaGreatDoor
open Go.RowKit
theorem rd_row {w : World} {b n k : Nat} {e : TypeId} {vs : List Value} (h : Row w b e vs.toArray) (hl : vs.length = n * k) (hn : n ≤ maxLen) : RdV w (fun j => j = b) k (.slice (some ⟨b, 0, none⟩) n n) n vs := by
  refine ⟨hl, ⟨_, n, rfl, Nat.le_refl _, hn, .inr ⟨_, _, rfl, rfl⟩⟩, fun b' off m cap he j u hu => ?_⟩
  injection he with e1 _ _; injection e1 with e1; injection e1 with e1 e2 _; subst e1 e2
  rw [Nat.zero_add]
  exact h.cell (by simpa using hu)
/-- a row of Members that was laid out by hand -/
def SetL (w : World) (b : Nat) (l : List Mv) : Prop := Row w b 32 (mcells l).toArray ∧ ∀ x ∈ l, NdR w (· < b) x.1.2 x.2.1 x.2.2
theorem SetL.on {w w' : World} {b : Nat} {l : List Mv} (h : SetL w b l) (hb : Below w.heap.size w w') : SetL w' b l :=
  ⟨h.1.below hb h.1.lt, fun x hx => (h.2 x hx).below hb (fun _k hk => Nat.lt_trans hk h.1.lt)⟩
theorem SetL.mb {w : World} {b n : Nat} {l : List Mv} (h : SetL w b l) (hn : l.length = n) (hm : n ≤ 1000000) : MbL w (.slice (some ⟨b, 0, none⟩) n n) l := by
  subst hn
  exact ⟨(rd_row h.1 (mcells_length l) (by unfold maxLen; omega)).mono (fun k e => by rw [e]; exact h.1.lt), fun x hx => (h.2 x hx).mono (fun k hk => Nat.lt_trans hk h.1.lt)⟩
theorem SetL.new {w : World} {l : List Mv} (h : ∀ x ∈ l, NdL w x.1.2 x.2.1 x.2.2) {c : Array Value} (hc : c = (mcells l).toArray) : SetL (w.alloc (.cells c 32)) w.heap.size l := by
  subst hc
  exact ⟨Row.new _ _ _, fun x hx => NdR.below (h x hx) ((Below.refl _ _).alloc (Nat.le_refl _) _) (fun _ hb => hb)⟩
theorem setCell_chg (w : World) (b i : Nat) (v : Value) : Chg (fun k => k = b) w.heap.size w (w.setCell ⟨b, i, none⟩ v) := Chg.setCell (M := fun k => k = b) (.refl _ _ _) (.inr rfl) _
theorem SetL.set {w : World} {b i : Nat} {l l2 : List Mv} {v : Value} (h : SetL w b l) (ha : (mcells l).toArray.setIfInBounds i v = (mcells l2).toArray) (hn : ∀ x ∈ l2, ∃ y ∈ l, y.1.2 = x.1.2 ∧ y.2 = x.2) : SetL (w.setCell ⟨b, i, none⟩ v) b l2 := by
  refine ⟨by rw [← ha]; exact h.1.set i v, fun x hx => ?_⟩
  obtain ⟨y, hy, e1, e2⟩ := hn x hx
  rw [← e1, ← e2]
  exact (h.2 y hy).chg (setCell_chg w b i v) (fun k hk => ⟨Nat.lt_trans hk h.1.lt, fun e => by omega⟩)
/-- a tree at hand that does not lie in b -/
def TrX (b : Nat) (w : World) (T : Nat) (t : List Mb) : Prop := ∃ mb Bk f, TreeIn w T mb Bk f t ∧ T ≠ b ∧ mb ≠ b ∧ ∀ k, Bk k → k < w.heap.size ∧ k ≠ b
theorem TrX.tr {b : Nat} {w : World} {T : Nat} {t : List Mb} (h : TrX b w T t) : TrL w T t := by
  obtain ⟨mb, Bk, f, h1, -, -, h2⟩ := h
  exact ⟨mb, Bk, f, h1, fun k hk => (h2 k hk).1⟩
theorem TrX.on {b : Nat} {w w' : World} {T : Nat} {t : List Mb} (h : TrX b w T t) (hb : Below w.heap.size w w') : TrX b w' T t := by
  obtain ⟨mb, Bk, f, h1, h2, h3, h4⟩ := h
  exact ⟨mb, Bk, f, h1.loc (fun b hb' => hb.block b (by
    rcases hb' with rfl | rfl | h
    · exact h1.row.lt
    · exact h1.map.lt
    · exact (h4 b h).1)), h2, h3, fun b hb' => ⟨Nat.lt_of_lt_of_le (h4 b hb').1 hb.size, (h4 b hb').2⟩⟩
theorem TrX.set {b i : Nat} {w : World} {T : Nat} {t : List Mb} {v : Value} (h : TrX b w T t) : TrX b (w.setCell ⟨b, i, none⟩ v) T t := by
  obtain ⟨mb, Bk, f, h1, h2, h3, h4⟩ := h
  have hc := setCell_chg w b i v
  exact ⟨mb, Bk, f, h1.loc (fun k hk => by
    rcases hk with rfl | rfl | h
    · exact hc.block _ h1.row.lt h2
    · exact hc.block _ h1.map.lt h3
    · exact hc.block _ (h4 _ h).1 (h4 _ h).2), h2, h3, fun k hk => ⟨Nat.lt_of_lt_of_le (h4 k hk).1 hc.size, (h4 k hk).2⟩⟩
theorem TrL.x {w : World} {T : Nat} {t : List Mb} (h : TrL w T t) {b : Nat} (hb : w.heap.size ≤ b) : TrX b w T t := by
  obtain ⟨mb, Bk, f, h1, h2⟩ := h
  exact ⟨mb, Bk, f, h1, by have := h1.row.lt; omega, by have := h1.map.lt; omega, fun k hk => ⟨h2 k hk, by have := h2 k hk; omega⟩⟩
theorem TrX.ofNew {w w' : World} {pv : Value} {t : List Mb} (h : NewIs w w' pv (some t)) {b : Nat} (hb : b < w.heap.size) : ∃ T, pv = .pointer (some ⟨T, 0, none⟩) ∧ TrX b w' T t := by
  obtain ⟨T, mb, Bk, f, he, h1, h2, h3, h4⟩ := h
  exact ⟨T, he, mb, Bk, f, h1, by omega, by omega, fun k hk => ⟨(h4 k hk).2, by have := (h4 k hk).1; omega⟩⟩
theorem new_tr {w : World} {v : Value} {l : List Mv} (B : Nat) (hT : Tabs B w) (hr : MbL w v l) (hs : ∀ x ∈ l, Sm x.1) (hl : l.length ≤ 1000000) {t : List Mb} (ht : newT (l.map (·.1)) = (0, some t)) :
    Calls Tryz.prog 8 #[v] w fun e w' => ∃ T, e = .returned (.tuple #[.pointer (some ⟨T, 0, none⟩), .int .i64 0]) ∧ TrL w' T t ∧ Below w.heap.size w w' := by
  have h := new_tree v l B w hT hr hs hl
  rw [ht] at h
  refine h.mono ?_
  rintro e w' ⟨⟨pv, rfl, hn⟩, hb⟩
  obtain ⟨T, rfl, h1⟩ := TrL.ofNew hn
  exact ⟨T, rfl, h1, hb⟩
theorem apply_tr {w : World} {T : Nat} {A : List Mb} {v : Value} {l : List Mv} (B : Nat) (hT : Tabs B w) (h : TrL w T A) (hA : A.length ≤ 100000) (hr : MbL w v l) (hs : ∀ x ∈ l, Sm x.1) (hl : l.length ≤ 100000) {r : List Mb} (hap : applyC A (l.map (·.1)) = (0, some r)) :
    Calls Tryz.prog 12 #[.pointer (some ⟨T, 0, none⟩), v] w fun e w' => ∃ U, e = .returned (.tuple #[.pointer (some ⟨U, 0, none⟩), .int .i64 0]) ∧ TrL w' U r ∧ (∀ b, b < w.heap.size → TrX b w' U r) ∧ Below w.heap.size w w' := by
  obtain ⟨mb, Bk, f, h1, h2⟩ := h
  have h := apply_any T mb Bk f A v l B w hT h1 h2 hA hr hs hl
  rw [hap] at h
  refine h.mono ?_
  rintro e w' ⟨⟨pv, rfl, hn⟩, hb⟩
  obtain ⟨U, rfl, h1⟩ := TrL.ofNew hn
  refine ⟨U, rfl, h1, fun b hb' => ?_, hb⟩
  obtain ⟨U', he, h3⟩ := TrX.ofNew hn hb'
  injection he with he; injection he with he; injection he with he _ _; subst he
  exact h3
theorem get_tr {w : World} {T : Nat} {L : List Mb} (h : TrL w T L) (p : Tx) (hp : p.length ≤ 1000000) {kind mode uid gid time : Int} {attrs : List R2} {data link : Tx} {is : Bool} (hg : getT L p = (⟨kind, mode, uid, gid, time, attrs, data, link⟩, is)) :
    Calls Tryz.prog 48 #[.pointer (some ⟨T, 0, none⟩), .string ⟨p.toArray⟩] w fun e w' => ∃ aa la ca ad ld cd, e = .returned (.tuple #[.agg #[.int .i64 kind, .int .u32 mode, .int .u32 uid, .int .u32 gid, .int .i64 time, .slice aa la ca, .slice ad ld cd, .string ⟨link.toArray⟩], .bool is]) ∧ NdL w' ⟨kind, mode, uid, gid, time, attrs, data, link⟩ (.slice aa la ca) (.slice ad ld cd) ∧ Below w.heap.size w w' := by
  obtain ⟨mb, Bk, f, h1, h2⟩ := h
  have h := get_tree T mb Bk f L w h1 h2 p hp
  rw [hg] at h
  refine h.mono ?_
  rintro e w' ⟨av, dv, rfl, hn, hb⟩
  obtain ⟨aa, la, ca, ad, ld, cd, e1, e2⟩ := hn.shape
  subst e1 e2
  exact ⟨aa, la, ca, ad, ld, cd, rfl, hn.mono (fun _ h => h.2), hb⟩
end Go.Proofs.YtplafpokgpolkaaGreatDoor
/- slices.Equal OVER ATTRIBUTES; two attributes set side by side. -/
namespace Go.Proofs.YtplafpokgpolkaaGreatDoor
open Go.RowKit
set_option maxRecDepth 100000 in
theorem neq_attr (x y : R2) (w : World) : (binOp .neq 97 (.agg #[.string ⟨x.1.toArray⟩, .string ⟨x.2.toArray⟩]) (.agg #[.string ⟨y.1.toArray⟩, .string ⟨y.2.toArray⟩])).run Tryz.prog w = .ok (.bool (!decide (x = y))) w := by
  obtain ⟨k, v⟩ := x
  obtain ⟨l, u⟩ := y
  have h := run_equalIn_struct (P := Tryz.prog) w 9999 97 #[.string ⟨k.toArray⟩, .string ⟨v.toArray⟩] #[.string ⟨l.toArray⟩, .string ⟨u.toArray⟩] (by kernel_rfl) (by kernel_rfl)
  have p0 := run_part_one (P := Tryz.prog) (e := 9) Tryz.underlying9 rfl #[.string ⟨k.toArray⟩, .string ⟨v.toArray⟩] 0 (.string ⟨k.toArray⟩) rfl
  have p1 := run_part_one (P := Tryz.prog) (e := 9) Tryz.underlying9 rfl #[.string ⟨k.toArray⟩, .string ⟨v.toArray⟩] 1 (.string ⟨v.toArray⟩) rfl
  have q0 := run_part_one (P := Tryz.prog) (e := 9) Tryz.underlying9 rfl #[.string ⟨l.toArray⟩, .string ⟨u.toArray⟩] 0 (.string ⟨l.toArray⟩) rfl
  have q1 := run_part_one (P := Tryz.prog) (e := 9) Tryz.underlying9 rfl #[.string ⟨l.toArray⟩, .string ⟨u.toArray⟩] 1 (.string ⟨u.toArray⟩) rfl
  simp only [Program.fieldsOf, Tryz.underlying97] at h
  rw [run_neq_struct]
  have e2 : ∀ (l m : List UInt8) (d : Nat) (w : World), (Op.equalIn (d + 1) 9 (.string ⟨l.toArray⟩) (.string ⟨m.toArray⟩)).run Tryz.prog w = .ok (l == m) w := fun l m d w => by
    rw [run_equalIn_string w d 9 _ _ Tryz.underlying9]
    congr 1
    rw [Bool.eq_iff_iff]
    simp
  have h2 : (Op.equalIn 10000 97 (.agg #[.string ⟨k.toArray⟩, .string ⟨v.toArray⟩]) (.agg #[.string ⟨l.toArray⟩, .string ⟨u.toArray⟩])).run Tryz.prog w = .ok (decide ((k, v) = (l, u))) w := by
    refine h.trans ?_
    by_cases e1 : k = l
    · by_cases e3 : v = u
      · subst e1 e3; simp [Op.eqFields, p0, p1, e2]
      · subst e1; simp [Op.eqFields, p0, p1, q0, q1, e2, e3]
    · simp [Op.eqFields, p0, q0, e2, e1]
  rw [h2]; rfl
set_option maxHeartbeats 1000000 in
set_option maxRecDepth 100000 in
theorem aequal_any (v1 v2 : Value) (l1 l2 : List R2) (w : World) (h1 : RdV w (· < w.heap.size) 2 v1 l1.length (rcells l1)) (h2 : RdV w (· < w.heap.size) 2 v2 l2.length (rcells l2)) :
    Calls Tryz.prog 95 #[v1, v2] w fun e w' => e = .returned (.bool (decide (l1 = l2))) ∧ Below w.heap.size w w' := by
  obtain ⟨a1, c1, rfl, hc1, hm1, g1⟩ := h1.shape
  obtain ⟨a2, c2, rfl, hc2, hm2, g2⟩ := h2.shape
  unfold maxLen at hm1 hm2
  have H1 := Keep.keep h1; have H2 := Keep.keep h2; have G1 := Keep.keep g1; have G2 := Keep.keep g2
  clear h1 h2 g1 g2
  by_cases hl : l1.length = l2.length
  · have HL := Keep.keep hl
    rw [← hl] at H2 hc2 ⊢
    clear hl
    obtain ⟨n, hn⟩ : ∃ n, l1.length = n := ⟨_, rfl⟩
    have HN := Keep.keep hn
    rw [hn] at H1 H2 hc1 hc2 HL ⊢
    clear hn
    go_enter Tryz.func95, Tryz.ntmps95
    go_wp2_with fail
    go_loopg [5, 13] n (fun g _ u13 wx => ∃ (k : Nat), k + g = n ∧ u13 = .int .i64 (k : Int) ∧ l1.take k = l2.take k ∧ Below w.heap.size w wx)
    case atStart => exact ⟨0, by omega, rfl, rfl, Below.refl _ _⟩
    case round =>
      obtain ⟨k, hkg, rfl, heq, hb⟩ := hrel
      have HEQ := Keep.keep heq; have HB := Keep.keep hb
      clear heq hb
      cases gk with
      | zero =>
        obtain rfl : k = n := by omega
        have HF : Keep (decide (l1 = l2) = true) := ⟨by
          have h := HEQ.out
          rw [List.take_of_length_le (by rw [HN.out]; exact Nat.le_refl _), List.take_of_length_le (by rw [← HL.out]; exact Nat.le_refl _)] at h
          exact decide_eq_true h⟩
        go_wp2_with fail
        go_ret
        exact ⟨by rw [HF.out]; rfl, HB.out⟩
      | succ g =>
        have hk : k < n := by omega
        have hk1 : k < l1.length := by rw [HN.out]; exact hk
        have hk2 : k < l2.length := by rw [← HL.out]; exact hk
        have hd : decide ((k : Int) < (n : Int)) = true := decide_eq_true (by omega)
        obtain ⟨b1, o1, rfl, hb1⟩ : ∃ b off, a1 = some ⟨b, off, none⟩ ∧ b < w.heap.size := by
          rcases G1.out with h | ⟨b, off, h, hb⟩
          · omega
          · exact ⟨b, off, h, hb⟩
        obtain ⟨b2, o2, rfl, hb2⟩ : ∃ b off, a2 = some ⟨b, off, none⟩ ∧ b < w.heap.size := by
          rcases G2.out with h | ⟨b, off, h, hb⟩
          · omega
          · exact ⟨b, off, h, hb⟩
        have hr1 := H1.out.below HB.out (fun b hb => hb)
        have hr2 := H2.out.below HB.out (fun b hb => hb)
        obtain ⟨s1, s2⟩ := rcells_get l1 k hk1
        obtain ⟨t1, t2⟩ := rcells_get l2 k hk2
        have x1 := hr1.cell b1 o1 _ _ rfl _ _ s1
        have x2 := hr1.cell b1 o1 _ _ rfl _ _ s2
        have y1 := hr2.cell b2 o2 _ _ rfl _ _ t1
        have y2 := hr2.cell b2 o2 _ _ rfl _ _ t2
        rw [← Nat.add_assoc] at x2 y2
        have HST : Keep (l1[k] = l2[k] → l1.take (k + 1) = l2.take (k + 1)) := ⟨fun e => by rw [List.take_succ_eq_append_getElem hk1, List.take_succ_eq_append_getElem hk2, HEQ.out, e]⟩
        have HNE : Keep (l1[k] ≠ l2[k] → decide (l1 = l2) = false) := ⟨fun e => decide_eq_false (fun h => e (by simp only [h]))⟩
        clear hr1 hr2 s1 s2 t1 t2
        generalize l1[k] = p at *
        generalize l2[k] = q at *
        have hneq := neq_attr p q
        unfold strV at x1 x2 y1 y2
        obtain ⟨pk, pv⟩ := p
        obtain ⟨qk, qv⟩ := q
        dsimp only at x1 x2 y1 y2 hneq
        by_cases e : ((pk, pv) : R2) = (qk, qv)
        · have HE := Keep.keep (HST.out e)
          rw [decide_eq_true e] at hneq
          clear e HST HNE
          go_upto_region 6 with fail
          (refine wp_region_quiet_lit (by kernel_rfl) (by kernel_rfl) ?_); (repeat (first | (fail) | go_big_quiet_step (fail))); (refine wpQuiet_nil ?_); (intro _ hwq); (obtain ⟨nq, hwq⟩ := hwq); (subst hwq)
          go_wp2_with fail
          go_roundg g
          case measure => omega
          case rel => exact ⟨k + 1, by omega, by simp, HE.out, below_drewN' HB.out _⟩
        · have HE := Keep.keep (HNE.out e)
          rw [decide_eq_false e] at hneq
          clear e HST HNE
          go_upto_region 6 with fail
          (refine wp_region_quiet_lit (by kernel_rfl) (by kernel_rfl) ?_); (repeat (first | (fail) | go_big_quiet_step (fail))); (refine wpQuiet_nil ?_); (intro _ hwq); (obtain ⟨nq, hwq⟩ := hwq); (subst hwq)
          go_wp2_with fail
          go_ret
          exact ⟨by rw [HE.out]; rfl, below_drewN' HB.out _⟩
  · have HE : Keep (decide (l1 = l2) = false) := ⟨decide_eq_false (fun e => hl (by rw [e]))⟩
    have hd : ((l1.length : Int) != (l2.length : Int)) = true := by simp; omega
    clear hl
    go_enter Tryz.func95, Tryz.ntmps95
    go_wp2_with fail
    go_ret
    exact ⟨by rw [HE.out]; rfl, Below.refl _ _⟩
end Go.Proofs.YtplafpokgpolkaaGreatDoor
/- A REGION THAT DRAWS ITS ORDER, one fact an operation, each of all slots and of the memory; stores into boxes that the region itself makes. -/
namespace Go.Proofs.YtplafpokgpolkaaGreatDoor
open Go.RowKit
theorem wp_region_spcF {P : Program} {ops : Array Oper} {id : Nat} {Q : Exit → Act → World → Prop} {a : Act} {w : World} (D : List (Option Nat)) (C : (Nat → Value) → World → Prop) (T : Nat → (Nat → Value) → World → Prop) (hm : P.follows .mixedOrders = true)
    (hD : ops.toList.map (·.dst) = D) (hB : inOrderB ops = true) (h0 : C (slot a) w.drew)
    (hs : ∀ i, i < ops.size → ∀ a1 w1, Fr a (D.filterMap (·)) a1 → C (slot a1) w1 → (∀ j, Region.waitsFor .any ops i j = true → T j (slot a1) w1) →
      wpOp P ops Q i (fun a2 w2 => ∃ v, a2 = a1.put (D.getD i none) v ∧ C (slot a2) w2 ∧ T i (slot a2) w2 ∧ ∀ j, j ≠ i → Region.waitsFor .any ops j i = false → T j (slot a1) w1 → T j (slot a2) w2) a1 w1)
    (he : ∀ a1 w1, a1 = (D.filterMap (·)).foldl (fun b d => b.put (some d) (slot a1 d)) a → C (slot a1) w1 → (∀ j, j < ops.size → T j (slot a1) w1) → Q .normal a1 w1) : (Code.region id ops true).wp P Q a w := by
  have hlen : D.length = ops.size := by rw [← hD]; simp
  have hget : ∀ i, i < ops.size → D.getD i none ∈ D := fun i hi => by
    rw [List.getD_eq_getElem?_getD, List.getElem?_eq_getElem (by omega)]
    exact List.getElem_mem _
  refine wp_region_fr (D.filterMap (·)) (fun done s w1 => C s w1 ∧ ∀ j, j < ops.size → done.getD j false = true → T j s w1) hm ⟨h0, fun j hj hd => ?_⟩ ?_ ?_
  · simp [Array.getD_eq_getD_getElem?, hj] at hd
  · intro done a1 w1 hF hI hz hcl i hi
    have hlt := ready_lt hi
    refine wpOp_mono ?_ (hs i hlt a1 w1 hF hI.1 (fun j hj => ?_))
    · rintro a2 w2 ⟨v, rfl, hC2, hT, hst⟩
      have hFr : Fr a (D.filterMap (·)) (a1.put (D.getD i none) v) := by
        cases hd : D.getD i none with
        | none => exact hF
        | some d =>
          refine hF.put d ?_ v
          rw [List.mem_filterMap]
          exact ⟨some d, hd ▸ hget i hlt, rfl⟩
      refine ⟨hFr, hC2, fun j hj hd => ?_⟩
      by_cases e : i = j
      · subst e; exact hT
      · have hd' := (getD_set_iff hd).resolve_left e
        refine hst j (Ne.symm e) ?_ (hI.2 j hj hd')
        rw [Bool.eq_false_iff]
        intro hw
        obtain ⟨ed, he1, he2, he3⟩ := waits_of (Array.getElem?_eq_getElem hj) hw
        have := hcl j _ (Array.getElem?_eq_getElem hj) hd' ed he1 he2
        rw [he3] at this
        have hr := (ready_at hi (Array.getElem?_eq_getElem hlt)).1
        rw [getD_both hr] at this; cases this
    · obtain ⟨e, he1, he2, he3⟩ := waits_of (Array.getElem?_eq_getElem hlt) hj
      have hdn := (ready_at hi (Array.getElem?_eq_getElem hlt)).2 e he1 he2
      rw [he3] at hdn
      have hjlt : j < ops.size := by
        rcases Nat.lt_or_ge j done.size with h | h
        · omega
        · simp [Array.getD_eq_getD_getElem?, Array.getElem?_eq_none h] at hdn
      exact hI.2 j hjlt hdn
  · intro done a1 w1 ha hI hz hr
    exact he a1 w1 ha hI.1 (fun j hj => hI.2 j hj (all_done hB hz hr j hj))
section
variable {P : Program} {ops : Array Oper} {Q : Exit → Act → World → Prop} {C : (Nat → Value) → World → Prop} {T : Nat → (Nat → Value) → World → Prop} {i d : Nat} {a1 : Act} {w1 w2 : World} {op : Op} {tp : TypeId} {pos : String} {af : Array Edge} {g : Option (Nat × Bool)} {v : Value}
theorem spcF_val (hi : ops[i]? = some ⟨some d, op, tp, pos, af, g⟩) (hg : Region.wanted (⟨some d, op, tp, pos, af, g⟩ : Oper) (yielded ops a1.tmps) = true)
    (hr : (execOp a1.eval (⟨some d, op, tp, pos, af, g⟩ : Oper)).run P w1 = .ok (.value v) w2) (hd : d < a1.tmps.size)
    (h : ∀ s : Nat → Value, s d = v → (∀ j, j ≠ d → s j = slot a1 j) → C s w2 ∧ T i s w2 ∧ ∀ j, j ≠ i → Region.waitsFor .any ops j i = false → T j (slot a1) w1 → T j s w2) :
    wpOp P ops Q i (fun a2 w2 => ∃ v, a2 = a1.put (some d) v ∧ C (slot a2) w2 ∧ T i (slot a2) w2 ∧ ∀ j, j ≠ i → Region.waitsFor .any ops j i = false → T j (slot a1) w1 → T j (slot a2) w2) a1 w1 := by
  unfold wpOp
  rw [hi]
  simp only
  rw [if_pos hg]
  refine .inl ?_
  unfold Oper.wp
  rw [hr]
  exact ⟨v, rfl, h _ (slot_put_same _ _ _ hd) (fun j hj => slot_put_ne _ _ _ _ (Ne.symm hj))⟩
theorem spcF_skip (hi : ops[i]? = some ⟨none, op, tp, pos, af, g⟩) (hg : Region.wanted (⟨none, op, tp, pos, af, g⟩ : Oper) (yielded ops a1.tmps) = true)
    (hr : (execOp a1.eval (⟨none, op, tp, pos, af, g⟩ : Oper)).run P w1 = .ok .skip w2)
    (h : C (slot a1) w2 ∧ T i (slot a1) w2 ∧ ∀ j, j ≠ i → Region.waitsFor .any ops j i = false → T j (slot a1) w1 → T j (slot a1) w2) :
    wpOp P ops Q i (fun a2 w2 => ∃ v, a2 = a1.put none v ∧ C (slot a2) w2 ∧ T i (slot a2) w2 ∧ ∀ j, j ≠ i → Region.waitsFor .any ops j i = false → T j (slot a1) w1 → T j (slot a2) w2) a1 w1 := by
  unfold wpOp
  rw [hi]
  simp only
  rw [if_pos hg]
  refine .inl ?_
  unfold Oper.wp
  rw [hr]
  exact ⟨undef, rfl, h⟩
end
end Go.Proofs.YtplafpokgpolkaaGreatDoor
/- bytes.Clone, bytes.Equal, string(b): on what reads as bytes. -/
namespace Go.Proofs.YtplafpokgpolkaaGreatDoor
open Go.RowKit
theorem equal_any (v1 v2 : Value) (l1 l2 : List UInt8) (N1 N2 : Nat → Prop) (w : World) (h1 : Reads w N1 v1 l1) (h2 : Reads w N2 v2 l2) :
    Calls Tryz.prog 94 #[v1, v2] w fun e w' => e = .returned (.bool (l1 == l2)) ∧ w = w' := by
  obtain ⟨a, cap, hu, _⟩ := h1.shape
  obtain ⟨a2, cap2, hu2, _⟩ := h2.shape
  subst hu hu2
  refine (Tryz.bytes_Equal_all a a2 _ _ _ _ (ints l1) (ints l2) w (ints_length _) (ints_length _) h1.bytesIn.2 h2.bytesIn.2).mono ?_
  rintro e w' ⟨rfl, rfl⟩
  exact ⟨by rw [bytesOf_ints, bytesOf_ints], rfl⟩
end Go.Proofs.YtplafpokgpolkaaGreatDoor
