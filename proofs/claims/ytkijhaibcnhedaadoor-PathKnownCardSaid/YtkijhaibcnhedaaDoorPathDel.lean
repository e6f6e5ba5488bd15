/- slices.DeleteFunc over names of the call's own. -/
import Derived.Test.YtkijhaibcnhedaaDoorPathMay
import Derived.Test.YtkijhaibcnhedaaDoorSlTo
import Derived.Lib.SliceRun
namespace Go.Proofs.YtkijhaibcnhedaaDoor
open Go.RowKit
theorem slSt : SlTy Tryd.prog 22 9 (strV []) 16 := SlTy.mk' Tryd.underlying22 (by kernel_rfl) rfl
theorem slice_from_at {P : Program} {T e : TypeId} {z : Value} {bytes : Nat} (hT : SlTy P T e z bytes) (g n cap i : Nat) (k : IntKind) (hi : i ≤ n) (hc : i < cap) (w : World) :
    (Instr.slice T (.slice (some ⟨g, 0, none⟩) n cap) (some (.int k (i : Int))) none none).run P w = .ok (.slice (some ⟨g, i, none⟩) (n - i) (cap - i)) w := by
  obtain ⟨inf, h1, h2, h3, h4⟩ := hT.i
  have he : P.elem T = e := by simp [Program.elem, hT.u]
  have hs : ∀ w, (sizeOf e).run P w = .ok 1 w := fun w => by simp [sizeOf, typeInfo, h1, h3]
  rw [run_slice_l w T _ n cap (by rw [he]; exact hT.u) k (i : Int) (by omega) (by omega), he, hs]
  simp [Result.andThen, sliced, Addr.add_mid, Nat.ne_of_gt hc]
theorem row_setCells (b : Nat) (e : TypeId) : ∀ (vs : List Value) (o : Nat) (w : World) (c : Array Value), Row w b e c → ∃ c', Row (w.setCells b o vs) b e c' ∧ c'.size = c.size ∧ ∀ m, m < o → c'[m]? = c[m]?
  | [], _, w, c, h => ⟨c, h, rfl, fun _ _ => rfl⟩
  | v :: r, o, w, c, h => by
    obtain ⟨c', h1, h2, h3⟩ := row_setCells b e r (o + 1) _ _ (h.set o v)
    exact ⟨c', h1, by simpa using h2, fun m hm => by rw [h3 m (by omega), Array.getElem?_setIfInBounds_ne (by omega)]⟩
theorem chg_setCellsM (M : Nat → Prop) (B b : Nat) (hb : M b) : ∀ (vs : List Value) (o : Nat) (w : World), Chg M B w (w.setCells b o vs)
  | [], _, w => .refl _ _ _
  | v :: r, o, w => (Chg.setCell (M := M) (.refl _ _ _) (.inr hb) v).trans (chg_setCellsM M B b hb r (o + 1) _)
/-- what stays of the first j -/
def kp (p : List UInt8 → Bool) (l : List (List UInt8)) (j : Nat) : List (List UInt8) := (l.take j).filter fun x => !p x
theorem kp_le (p : List UInt8 → Bool) (l : List (List UInt8)) (j : Nat) : (kp p l j).length ≤ j := Nat.le_trans (List.length_filter_le _ _) (by rw [List.length_take]; omega)
theorem kp_succ (p : List UInt8 → Bool) (l : List (List UInt8)) (j : Nat) (hj : j < l.length) : kp p l (j + 1) = if p l[j] then kp p l j else kp p l j ++ [l[j]] := by
  unfold kp
  rw [List.take_succ_eq_append_getElem hj, List.filter_append]
  cases h : p l[j]
  · rw [List.filter_cons_of_pos (by simp [h])]; rfl
  · rw [List.filter_cons_of_neg (by simp [h])]; simp
theorem kp_all (p : List UInt8 → Bool) (l : List (List UInt8)) : kp p l l.length = l.filter fun x => !p x := by unfold kp; rw [List.take_length]
/-- the row while it is done -/
structure DF (p : List UInt8 → Bool) (l : List (List UInt8)) (cap : Nat) (c : Array Value) (j : Nat) : Prop where
  sz : c.size = cap
  pre : c.toList.take (kp p l j).length = (kp p l j).map strV
  post : ∀ m, j ≤ m → (h : m < l.length) → c[m]? = some (strV l[m])
theorem DF.skip {p : List UInt8 → Bool} {l : List (List UInt8)} {cap j : Nat} {c : Array Value} (h : DF p l cap c j) (hj : j < l.length) (hp : p l[j] = true) : DF p l cap c (j + 1) := by
  have hk := kp_succ p l j hj
  rw [if_pos hp] at hk
  exact ⟨h.sz, by rw [hk]; exact h.pre, fun m hm hl => h.post m (by omega) hl⟩
theorem DF.put {p : List UInt8 → Bool} {l : List (List UInt8)} {cap j : Nat} {c : Array Value} (h : DF p l cap c j) (hj : j < l.length) (hl : l.length ≤ cap) (hp : p l[j] = false) : DF p l cap (c.setIfInBounds (kp p l j).length (strV l[j])) (j + 1) := by
  have hk := kp_succ p l j hj
  rw [if_neg (by rw [hp]; decide)] at hk
  have hle := kp_le p l j
  have hs := h.sz
  refine ⟨by simp [hs], ?_, fun m hm hml => ?_⟩
  · rw [hk, List.length_append, List.length_singleton, List.map_append, ← h.pre]
    obtain ⟨c⟩ := c
    have hs : c.length = cap := hs
    rw [List.setIfInBounds_toArray]
    simp only
    rw [List.take_succ_eq_append_getElem (by rw [List.length_set]; omega), List.getElem_set_self, List.take_set_of_le (Nat.le_refl _)]
    rfl
  · rw [Array.getElem?_setIfInBounds_ne (by omega)]
    exact h.post m (by omega) hml
theorem owns_of_df {w : World} {base g cap : Nat} {c : Array Value} {m : List (List UInt8)} (hr : Row w g 9 c) (hb : base ≤ g) (hm : m.length ≤ cap) (hc : cap ≤ maxLen) (hs : c.size = cap) (hp : c.toList.take m.length = m.map strV) : OwnS w base (.slice (some ⟨g, 0, none⟩) m.length cap) m :=
  ⟨by simp, .inr ⟨g, cap, c, rfl, hb, hr, hm, hc, by omega, by rw [Nat.mul_one]; exact hp⟩⟩
set_option maxHeartbeats 4000000 in
set_option maxRecDepth 100000 in
theorem dfunc_any (f : FuncId) (p : List UInt8 → Bool) (v : Value) (l : List (List UInt8)) (base : Nat) (w : World) (hent : ∀ args w, (callFunc f args).run Tryd.prog w = .ok (.enter f args) w) (hf : PredF f p l) (hown : OwnS w base v l) :
    Calls Tryd.prog 48 #[v, .func (.func f) #[] #[]] w fun e w' => ∃ v', e = .returned v' ∧ OwnS w' base v' (l.filter fun x => !p x) ∧ v'.ownBlock = v.ownBlock ∧ Chg (fun b => v.ownBlock = some b) w.heap.size w w' := by
  have HI := Keep.keep (ifunc_any f p v l w hent hf ((ownsV_reads hown).mono (fun b hb => hb.2.1)))
  have HF := Keep.keep hf
  have HOWN := Keep.keep hown
  obtain ⟨hlen, hcase⟩ := hown
  have HCASE := Keep.keep hcase
  clear hf hlen hcase
  by_cases hall : ∀ x ∈ l, p x = false
  · have hi : idxF p l = -1 := idxF_none (fun j hj => hall _ (List.getElem_mem hj))
    have hfl : (l.filter fun x => !p x) = l := List.filter_eq_self.2 (fun x hx => by simp [hall x hx])
    obtain ⟨a, cap, rfl, -⟩ := (ownsV_reads HOWN.out).shape
    rw [hi] at HI
    rw [hfl]
    clear hi hfl hall
    go_enter Tryd.func48, Tryd.ntmps48
    go_wp2_with fail
    refine HI.out.mono ?_
    rintro e w1 ⟨rfl, hb⟩
    have HB := Keep.keep hb
    clear hb
    go_wp2_with fail
    go_ret
    have hc := Chg.of_below (M := fun b => (Value.slice a l.length cap).ownBlock = some b) HB.out
    exact ⟨_, rfl, ownsRow_loc _ _ (fun b hb => HB.out.block b (ownsV_lt HOWN.out b hb).2) HOWN.out, rfl, hc⟩
  · obtain ⟨i, hi, hpi, hno⟩ : ∃ i, ∃ h : i < l.length, p l[i] = true ∧ ∀ j, (hj : j < i) → p (l[j]'(by omega)) = false := by
      cases hx : l.findIdx? p with
      | none => exact absurd (fun x hx' => by simpa using List.findIdx?_eq_none_iff.1 hx x hx') hall
      | some i =>
        obtain ⟨h1, h2, h3⟩ := List.findIdx?_eq_some_iff_getElem.1 hx
        exact ⟨i, h1, h2, fun j hj => by simpa using h3 j hj⟩
    have hidx := idxF_hit hi hpi hno
    rw [hidx] at HI
    rcases HCASE.out with ⟨_, h0⟩ | ⟨g, cap, cur, rfl, hbase, hrow, hn, hmx, hsz, htk⟩
    · omega
    have hkp : kp p l i = l.take i := by
      unfold kp
      rw [List.filter_eq_self]
      intro x hx
      obtain ⟨j, hj, rfl⟩ := List.mem_iff_getElem.1 hx
      rw [List.length_take] at hj
      simp [hno j (by omega)]
    have hkl : (kp p l i).length = i := by rw [hkp, List.length_take]; omega
    have hk1 := kp_succ p l i hi
    rw [if_pos hpi] at hk1
    rw [Nat.mul_one] at hsz htk
    have hget : ∀ m, (h : m < l.length) → cur[m]? = some (strV l[m]) := fun m hm => by
      have h1 : (cur.toList.take l.length)[m]? = some (strV l[m]) := by rw [htk]; simp [hm]
      rw [List.getElem?_take_of_lt hm] at h1
      simpa using h1
    have hdf : DF p l cap cur (i + 1) := ⟨hsz, by
      rw [hk1, hkl, hkp, List.map_take, ← htk, List.take_take, Nat.min_eq_left (by omega)], fun m _ hm => hget m hm⟩
    have HDF := Keep.keep hdf
    have hkl2 : (kp p l (i + 1)).length = i := by rw [hk1]; exact hkl
    have HKL := Keep.keep hkl2
    have HROW : Keep (Row w g 9 cur) := ⟨hrow⟩
    have HTOT : Keep ((kp p l l.length).length < l.length) := ⟨by
      rw [kp_all]
      refine Nat.lt_of_le_of_ne (List.length_filter_le _ _) (fun e => ?_)
      have := List.length_filter_eq_length_iff.1 e l[i] (List.getElem_mem hi)
      simp [hpi] at this⟩
    have HBASE := Keep.keep hbase
    unfold maxLen at hmx
    clear hidx hpi hno hall hkp hkl hk1 hsz htk hget hdf hrow hbase hkl2 HCASE
    have hbig : l.length ≤ 9223372036854775807 := by omega
    go_enter Tryd.func48, Tryd.ntmps48
    go_wp2_with fail
    refine HI.out.mono ?_
    rintro e w1 ⟨rfl, hb⟩
    have HB := Keep.keep hb
    clear hb HI
    have hne : ((i : Int) == -1) = false := by rw [beq_eq_false_iff_ne]; omega
    go_wp2_with fail
    go_loopg [5, 6, 7] (l.length - (i + 1)) (fun q u5 u6 _ wx => ∃ (j : Nat) (c : Array Value), j + q = l.length ∧ u6 = .int .i64 (j : Int) ∧ u5 = .int .i64 ((kp p l j).length : Int) ∧ Row wx g 9 c ∧ DF p l cap c j ∧ Chg (fun b => b = g) w.heap.size w wx)
    case atStart => exact ⟨i + 1, cur, by omega, by simp, by rw [HKL.out], HROW.out.below HB.out HROW.out.lt, HDF.out, .of_below HB.out⟩
    case round =>
      obtain ⟨j, c, hjq, rfl, rfl, hrow, hdf, hch⟩ := hrel
      have HR := Keep.keep hrow; have HD := Keep.keep hdf; have HC := Keep.keep hch
      have hle := kp_le p l j
      clear hrow hdf hch
      cases gk with
      | zero =>
        obtain rfl : j = l.length := by omega
        have htot := HTOT.out
        have HFL : Keep (kp p l l.length = l.filter fun x => !p x) := ⟨kp_all p l⟩
        generalize hkk : (kp p l l.length).length = k at *
        have HKK := Keep.keep hkk
        have hsl := slice_from_at (P := Tryd.prog) slSt g l.length cap k .i64 (by omega) (by omega) wr
        have hsz := HD.out.sz
        have hcl := fun ty => Lib.run_clear_slice (P := Tryd.prog) wr 22 9 ty (strV []) Tryd.underlying22 (fun w => by kernel_rfl) rfl rfl g k (l.length - k) (cap - k) (by omega) (fun m hm => by rw [HR.out.cell (i := k + m) (Array.getElem?_eq_getElem (by omega))]; rfl) (fun m hm => HR.out.frozen _)
        obtain ⟨c', hr', hs', hp'⟩ := row_setCells g 9 (List.replicate (l.length - k) (strV [])) k wr c HR.out
        have hch' := HC.out.trans ((chg_setCellsM (fun b => b = g) wr.heap.size g rfl (List.replicate (l.length - k) (strV [])) k wr).lower HC.out.size)
        have HR' := Keep.keep hr'; have HCH := Keep.keep hch'
        have HPRE : Keep (c'.size = cap ∧ c'.toList.take k = (kp p l l.length).map strV) := ⟨by omega, by
          rw [← HD.out.pre, HKK.out]
          apply List.ext_getElem?
          intro m
          rw [List.getElem?_take, List.getElem?_take]
          by_cases hm : m < k
          · rw [if_pos hm, if_pos hm]; simpa using hp' m hm
          · rw [if_neg hm, if_neg hm]⟩
        generalize wr.setCells g k (List.replicate (l.length - k) (strV [])) = w9 at *
        have hst := slice_to (P := Tryd.prog) slSt (some ⟨g, 0, none⟩) l.length cap k .i64 (by omega) (.inr ⟨g, 0, rfl⟩) w9
        clear hr' hs' hp' hch' hsz hkk
        go_wp2_with fail
        go_ret
        refine ⟨_, rfl, ?_, rfl, HCH.out.mono (Nat.le_refl _) (fun b hb => by rw [hb]; rfl)⟩
        rw [← HFL.out, ← HKK.out]
        exact owns_of_df HR'.out HBASE.out (by rw [HKK.out]; omega) (by unfold maxLen; omega) HPRE.out.1 (by rw [HKK.out]; exact HPRE.out.2)
      | succ q =>
        have hj : j < l.length := by omega
        have hcell := HR.out.cell (HD.out.post j (Nat.le_refl _) hj)
        have HCF := Keep.keep (HF.out l[j] (List.getElem_mem hj) wr)
        have HSK := Keep.keep (fun h => HD.out.skip hj h)
        have HPU := Keep.keep (fun h => HD.out.put hj hn h)
        have hk1 := kp_succ p l j hj
        have HK1 := Keep.keep hk1
        clear hk1
        have hsz := HD.out.sz
        obtain ⟨ov, hov⟩ : ∃ ov, c[(kp p l j).length]? = some ov := ⟨_, Array.getElem?_eq_getElem (by omega)⟩
        have HOV := Keep.keep (fun wx (h : Row wx g 9 c) => h.cell hov)
        have HFZ := Keep.keep (fun wx (h : Row wx g 9 c) => h.frozen (kp p l j).length)
        clear hov hsz
        generalize hkk : (kp p l j).length = k at *
        have HKK := Keep.keep hkk
        clear hkk
        generalize p l[j] = pk at *
        generalize l[j] = x at *
        unfold strV at hcell HCF
        go_wp2_with fail
        refine HCF.out.mono ?_
        rintro e w2 ⟨rfl, hb2⟩
        have HB2 := Keep.keep hb2
        clear hb2 HCF hcell
        have HR2 := Keep.keep (HR.out.below HB2.out HR.out.lt)
        have HC2 := Keep.keep (HC.out.trans ((Chg.of_below (M := fun b => b = g) HB2.out).lower HC.out.size))
        cases pk with
        | true =>
          have HX := Keep.keep (HSK.out rfl)
          have HL : Keep ((kp p l (j + 1)).length = k) := ⟨by rw [HK1.out, if_pos rfl]; exact HKK.out⟩
          go_wp2_with fail
          go_roundg q
          case measure => omega
          case rel => exact ⟨j + 1, c, by omega, by simp, by rw [HL.out], HR2.out, HX.out, HC2.out⟩
        | false =>
          have HX := Keep.keep (HPU.out rfl)
          have HL : Keep ((kp p l (j + 1)).length = k + 1) := ⟨by rw [HK1.out, if_neg (by decide), List.length_append, HKK.out]; rfl⟩
          have hov := HOV.out w2 HR2.out
          have hfz := HFZ.out w2 HR2.out
          have HR3 := Keep.keep (HR2.out.set k (strV x))
          have HC3 := Keep.keep (HC2.out.setCell (p := ⟨g, k, none⟩) (.inr rfl) (strV x))
          unfold strV at HR3 HC3 HX
          clear HOV HFZ HPU HSK
          go_wp2_with fail
          go_roundg q
          case measure => omega
          case rel => exact ⟨j + 1, _, by omega, by simp, by rw [HL.out]; simp, HR3.out, HX.out, HC3.out⟩
end Go.Proofs.YtkijhaibcnhedaaDoor
