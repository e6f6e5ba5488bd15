/- PARTS OF ONE PROOF, set in one file: PathFn3, PathMay, SlTo, PathDel, PathClean, PathMap, PathClass, PathClassB, Node, TarTyp, QCell, TarMay, Spc. Each part tells its own conditions. -/
import Derived.Lib.SliceRun
import Derived.Lib.SlicesS
import Derived.Maps.Keyed
import Derived.LaidHandle
import Derived.LaidMore
import Derived.Lib.LaidU8
import Derived.Deep.MidRow
import Derived.Test.YtplafpokgpolkaaGreatDoorP1
import Derived.Test.YtplafpokgpolkaaGreatDoorP3
/- path.Join, path.Above. -/
namespace Go.Proofs.YtplafpokgpolkaaGreatDoor
open Go.RowKit
/-- the names that are none are left out -/
abbrev flt (l : List (List UInt8)) : List (List UInt8) := l.filter fun x => !x.isEmpty
theorem flt_take {l : List (List UInt8)} {k : Nat} (hk : k < l.length) : flt (l.take (k + 1)) = if l[k].isEmpty then flt (l.take k) else flt (l.take k) ++ [l[k]] := by
  rw [List.take_succ_eq_append_getElem hk, flt, List.filter_append]
  cases h : l[k].isEmpty
  · rw [List.filter_cons_of_pos (by simp [h])]; rfl
  · rw [List.filter_cons_of_neg (by simp [h])]; simp
theorem sjoin_any (v : Value) (l : List (List UInt8)) (w : World) (hr : RdS w (· < w.heap.size) v l) (hn : l.length ≤ 1000000000) (hj : (joinS l).length ≤ 1000000000) :
    Calls Tryz.prog 98 #[v, .string ⟨#[47]⟩] w fun e w' => e = .returned (.string ⟨(joinS l).toArray⟩) ∧ Below w.heap.size w w' := by
  obtain ⟨a, cap, rfl, hcap, hmx, h3⟩ := hr.shape
  have hx : (l.map fun x => (⟨x.toArray⟩ : ByteArray)).map (·.data.toList) = l := by simp [Function.comp_def]
  rcases h3 with h3 | ⟨b, off, rfl, hb⟩
  · obtain rfl : l = [] := List.eq_nil_of_length_eq_zero (by omega)
    refine (Tryz.strings_Join_none a cap ⟨#[47]⟩ w).mono ?_
    rintro e w' ⟨rfl, rfl⟩
    exact ⟨rfl, Below.refl _ _⟩
  · have h := Tryz.strings_Join b off cap (l.map fun x => (⟨x.toArray⟩ : ByteArray)) ⟨#[47]⟩ w (fun j x hj => by
      rw [List.getElem?_map] at hj
      obtain ⟨y, hy, rfl⟩ := Option.map_eq_some_iff.1 hj
      exact hr.cell b off _ _ rfl j (strV y) (by rw [List.getElem?_map, hy]; rfl)) hb (by simp; omega) (by simpa using hcap) (by rw [hx, join_eq]; omega)
    rw [hx, join_eq, List.length_map] at h
    exact h
set_option maxHeartbeats 1000000 in
set_option maxRecDepth 100000 in
theorem join_any (v : Value) (l : List (List UInt8)) (w : World) (hr : RdS w (· < w.heap.size) v l) (hn : l.length ≤ 1000000000) (hj : (joinP l).length ≤ 1000000000) :
    Calls Tryz.prog 55 #[v] w fun e w' => e = .returned (.string ⟨(joinP l).toArray⟩) ∧ Below w.heap.size w w' := by
  obtain ⟨a, cap, rfl, hcap, hmx, h3⟩ := hr.shape
  have HR := Keep.keep hr; have H3 := Keep.keep h3; have HJ := Keep.keep hj
  unfold maxLen at hmx
  clear hr h3 hj
  go_enter Tryz.func55, Tryz.ntmps55
  go_wp2_with fail
  go_loopg [3, 5, 8] l.length (fun g u3 _ u8 wx => ∃ k : Nat, k + g = l.length ∧ u8 = .int .i64 (k : Int) ∧ Hp NoM w wx [slA w.heap.size 9 1 u3 (flt (l.take k)).length ((flt (l.take k)).map strV)])
  case atStart => exact ⟨0, by omega, rfl, (Hp.begin NoM w).nilS _ _ _⟩
  case round =>
    obtain ⟨k, hkg, rfl, hH⟩ := hrel
    have HH := Keep.keep hH
    have hown := hH.sl 0 rfl
    obtain ⟨a3, c3, rfl, -⟩ := (ownsV_reads hown).shape
    have HO := Keep.keep hown
    clear hH hown
    cases gk with
    | zero =>
      obtain rfl : k = l.length := by omega
      have HS : Keep (RdS wr (· < wr.heap.size) (.slice a3 (flt l).length c3) (flt l)) := ⟨by
        have := ownsV_reads HO.out
        rw [List.take_length] at this
        exact this.mono (fun b hb => hb.2.1)⟩
      have hnl : (flt (l.take l.length)).length = (flt l).length := by rw [List.take_length]
      have HC := Keep.keep (sjoin_any _ (flt l) wr HS.out (Nat.le_trans (List.length_filter_le _ _) hn) HJ.out)
      rw [hnl]
      go_wp2_with fail
      refine HC.out.mono ?_
      rintro e w2 ⟨rfl, hb2⟩
      have HB := Keep.keep (HH.out.below.trans (hb2.mono HH.out.size))
      clear hb2
      go_wp2_with fail
      go_ret
      exact ⟨rfl, HB.out⟩
    | succ g =>
      have hk : k < l.length := by omega
      rcases H3.out with ⟨_, h3⟩ | ⟨b, off, rfl, hbl⟩
      · omega
      have hcell := (HR.out.below HH.out.below (fun b hb => hb)).cell b off _ _ rfl k (strV l[k]) (by simp [hk])
      have hft := flt_take hk
      have hfl : (flt (l.take k)).length ≤ l.length := Nat.le_trans (List.length_filter_le _ _) (by rw [List.length_take]; omega)
      have heq := bne_nil l[k]
      cases hem : l[k].isEmpty with
      | true =>
        rw [hem] at hft heq
        rw [if_pos rfl] at hft
        have HFT := Keep.keep hft
        clear hft hfl hem
        generalize l[k] = x at *
        unfold strV at hcell
        go_wp2_with fail
        go_roundg g
        case measure => omega
        case rel => exact ⟨k + 1, by omega, by simp, by rw [HFT.out]; exact HH.out⟩
      | false =>
        rw [hem] at hft heq
        rw [if_neg (by decide)] at hft
        have HFT := Keep.keep hft
        clear hft hem
        generalize l[k] = x at *
        unfold strV at hcell
        go_wp2_with (with_reducible refine arm_stop ?_)
        refine Stopped.out ?_
        refine arm_appendV slS ((HH.out.alloc _).sl 0 rfl) (RdV.new (N := fun _ => True) 9 [strV x] 1 1 _ rfl rfl (by unfold maxLen; omega) trivial) (by simp [strV, Value.oneCell']) (by unfold maxLen; omega) (by omega) (by simp; have := HH.out.size; omega) rfl rfl ?_
        intro v' w' ho hg hb _
        have HG := Keep.keep ((HH.out.alloc _).grow 0 rfl hg ho hb)
        obtain ⟨a4, c4, rfl, -⟩ := (ownsV_reads ho).shape
        clear ho hg hb
        simp only [Act.put, List.setIfInBounds_toArray, List.set_cons_succ, List.set_cons_zero]
        go_wp2_with fail
        go_roundg g
        case measure => omega
        case rel => exact ⟨k + 1, by omega, by simp, by rw [HFT.out, List.length_append, List.map_append]; exact HG.out⟩
def abvT (p : List UInt8) (k : Nat) : List (List UInt8) := (List.range k).filterMap fun i => if p[i]? = some 47 then some (p.take i) else none
theorem abvT_all (p : List UInt8) : abvT p p.length = aboveP p := rfl
theorem abvT_succ (p : List UInt8) (k : Nat) (hk : k < p.length) : abvT p (k + 1) = if p[k] = 47 then abvT p k ++ [p.take k] else abvT p k := by
  unfold abvT
  rw [List.range_succ, List.filterMap_append]
  by_cases h : p[k] = 47
  · rw [if_pos h]; simp [hk, h]
  · rw [if_neg h]; simp [hk, h]
theorem abvT_len (p : List UInt8) (k : Nat) : (abvT p k).length ≤ k := by
  unfold abvT
  exact Nat.le_trans (List.length_filterMap_le _ _) (by simp)
set_option maxHeartbeats 1000000 in
set_option maxRecDepth 100000 in
theorem above_any (p : List UInt8) (hp : p.length ≤ 1000000) (w : World) :
    Calls Tryz.prog 78 #[.string ⟨p.toArray⟩] w fun e w' => ∃ v, e = .returned v ∧ OwnS w' w.heap.size v (aboveP p) ∧ Below w.heap.size w w' := by
  go_enter Tryz.func78, Tryz.ntmps78
  go_wp2_with fail
  go_loopg [3, 4, 7] p.length (fun g u3 _ u7 wx => ∃ k : Nat, k + g = p.length ∧ u7 = .int .i64 (k : Int) ∧ Hp NoM w wx [slA w.heap.size 9 1 u3 (abvT p k).length ((abvT p k).map strV)])
  case atStart => exact ⟨0, by omega, rfl, (Hp.begin NoM w).nilS _ _ _⟩
  case round =>
    obtain ⟨k, hkg, rfl, hH⟩ := hrel
    have HH := Keep.keep hH
    have hown := hH.sl 0 rfl
    obtain ⟨a3, c3, rfl, -⟩ := (ownsV_reads hown).shape
    have HO := Keep.keep hown
    clear hH hown
    cases gk with
    | zero =>
      obtain rfl : k = p.length := by omega
      go_wp2_with fail
      go_ret
      exact ⟨_, rfl, HO.out, HH.out.below⟩
    | succ g =>
      have hk : k < p.length := by omega
      have hidx := run_index_str (P := Tryz.prog) Tryz.underlying9 ⟨p.toArray⟩ .i64 k p[k] (by simp [hk])
      have hgi : (⟨p.toArray⟩ : ByteArray)[k]'(hk) = p[k] := rfl
      have hst := run_slice_to (P := Tryz.prog) Tryz.underlying9 p .i64 k (by omega)
      have hsu := abvT_succ p k hk
      have hal := abvT_len p k
      by_cases h47 : p[k] = 47
      · rw [if_pos h47] at hsu
        rw [h47] at hgi hidx
        have HS := Keep.keep hsu
        clear hsu h47
        generalize p.take k = x at *
        go_wp2_with (with_reducible refine arm_stop ?_)
        refine Stopped.out ?_
        refine arm_appendV slS ((HH.out.alloc _).sl 0 rfl) (RdV.new (N := fun _ => True) 9 [strV x] 1 1 _ rfl rfl (by unfold maxLen; omega) trivial) (by simp [strV, Value.oneCell']) (by unfold maxLen; omega) (by omega) (by simp; have := HH.out.size; omega) rfl rfl ?_
        intro v' w' ho hg hb _
        have HG := Keep.keep ((HH.out.alloc _).grow 0 rfl hg ho hb)
        obtain ⟨a4, c4, rfl, -⟩ := (ownsV_reads ho).shape
        clear ho hg hb
        simp only [Act.put, List.setIfInBounds_toArray, List.set_cons_succ, List.set_cons_zero]
        go_wp2_with fail
        go_roundg g
        case measure => omega
        case rel => exact ⟨k + 1, by omega, by simp, by rw [HS.out, List.length_append, List.map_append]; exact HG.out⟩
      · rw [if_neg h47] at hsu
        have HS := Keep.keep hsu
        have hne : ((p[k].toNat : Int) == 47) = false := by
          rw [beq_eq_false_iff_ne]; intro e; exact h47 (UInt8.toNat_inj.1 (by show p[k].toNat = 47; omega))
        clear hsu h47
        generalize p[k] = c at *
        go_wp2_with fail
        go_roundg g
        case measure => omega
        case rel => exact ⟨k + 1, by omega, by simp, by rw [HS.out]; exact HH.out⟩
end Go.Proofs.YtplafpokgpolkaaGreatDoor
/- path.May; what Clean asks of names. -/
namespace Go.Proofs.YtplafpokgpolkaaGreatDoor
open Go.RowKit
theorem spl_mem_len : ∀ (l : List UInt8), ∀ x ∈ spl l, x.length ≤ l.length
  | [], x, hx => by simp [spl] at hx; subst hx; exact Nat.le_refl _
  | c :: l, x, hx => by
    have ih := spl_mem_len l
    unfold spl at hx
    rw [List.length_cons]
    split at hx
    · rcases List.mem_cons.1 hx with rfl | hx
      · simp
      · have := ih x hx; omega
    · split at hx
      · obtain rfl := List.mem_singleton.1 hx; simp
      · rename_i h t he
        rw [he] at ih
        rcases List.mem_cons.1 hx with rfl | hx
        · have := ih h (by simp); simp; omega
        · have := ih x (by simp [hx]); omega
theorem splitP_mem_len (l : List UInt8) (x : List UInt8) (hx : x ∈ splitP l) : x.length ≤ l.length := by
  unfold splitP at hx
  split at hx
  · cases hx
  · exact spl_mem_len l x hx
theorem ent_mayc : ∀ args w, (callFunc 125 args).run Tryz.prog w = .ok (.enter 125 args) w := enters_of Tryz.func125 (by kernel_rfl) rfl
theorem mayc_any (s : List UInt8) (hs : s.length ≤ 1000000) (w : World) :
    Calls Tryz.prog 125 #[strV s] w fun e w' => e = .returned (.bool (!mayN s)) ∧ Below w.heap.size w w' := by
  have HM := Keep.keep (mayname_any s hs w)
  generalize mayN s = b at *
  unfold strV
  go_enter Tryz.func125, Tryz.ntmps125
  go_wp2_with fail
  refine HM.out.mono ?_
  rintro e w1 ⟨rfl, hb⟩
  go_wp2_with fail
  go_ret
  exact ⟨rfl, hb⟩
set_option maxHeartbeats 1000000 in
set_option maxRecDepth 100000 in
theorem may_any (p : List UInt8) (hp : p.length ≤ 1000000) (B : Nat) (w : World) (hB : B ≤ w.heap.size) (hM : Mx B w) :
    Calls Tryz.prog 92 #[.string ⟨p.toArray⟩] w fun e w' => e = .returned (.bool (mayP p)) ∧ Below w.heap.size w w' := by
  have HS := Keep.keep (split_any p hp B w hB hM)
  have HP : Keep (PredF 125 (fun s => !mayN s) (splitP p)) := ⟨fun x hx w => mayc_any x (Nat.le_trans (splitP_mem_len p x hx) hp) w⟩
  have hall : (splitP p).all mayN = !(splitP p).any (fun s => !mayN s) := by rw [List.all_eq_not_any_not]
  have HC := Keep.keep (fun v w (h : RdS w (· < w.heap.size) v (splitP p)) => cfunc_any 125 (fun s => !mayN s) v (splitP p) w ent_mayc HP.out h)
  unfold mayP
  rw [hall]
  have hq1 : decide ((p.length : Int) ≤ 4080) = decide (p.length ≤ 4080) := by simp only [decide_eq_decide]; omega
  have hq2 : decide (((splitP p).length : Int) < 255) = decide ((splitP p).length < 255) := by simp only [decide_eq_decide]; omega
  generalize decide (p.length ≤ 4080) = b1 at *
  generalize decide ((splitP p).length < 255) = b2 at *
  generalize (splitP p).any (fun s => !mayN s) = b3 at *
  clear hM HP hall
  go_enter Tryz.func92, Tryz.ntmps92
  go_wp2_with fail
  refine HS.out.mono ?_
  rintro e w1 ⟨v, rfl, ho, hb⟩
  have HO := Keep.keep ((ownsV_reads ho).mono (N' := (· < w1.heap.size)) (fun b hb => hb.2.1)); have HB := Keep.keep hb
  obtain ⟨a, c, rfl, -⟩ := (ownsV_reads ho).shape
  clear ho hb
  cases b1 with
  | false =>
    go_wp2_with fail
    go_ret
    exact ⟨rfl, HB.out⟩
  | true =>
  cases b2 with
  | false =>
    go_wp2_with fail
    go_ret
    exact ⟨rfl, HB.out⟩
  | true =>
    go_wp2_with fail
    refine (HC.out _ _ HO.out).mono ?_
    rintro e w2 ⟨rfl, hb2⟩
    have HB2 := Keep.keep (HB.out.trans (hb2.mono HB.out.size))
    clear hb2
    go_wp2_with fail
    go_ret
    exact ⟨rfl, HB2.out⟩
end Go.Proofs.YtplafpokgpolkaaGreatDoor
/- b[:i] OF A SLICE OF BYTES, and of any cells. -/
namespace Go.Proofs.YtplafpokgpolkaaGreatDoor
open Go.RowKit
theorem slice_to {P : Program} {T e : TypeId} {z : Value} {bytes : Nat} (hT : SlTy P T e z bytes) (a : Option Addr) (n cap i : Nat) (k : IntKind) (hi : i ≤ cap) (w : World) :
    (Instr.slice T (.slice a n cap) none (some (.int k (i : Int))) none).run P w = .ok (.slice a i cap) w := by
  obtain ⟨inf, h1, h2, h3, h4⟩ := hT.i
  have he : P.elem T = e := by simp [Program.elem, hT.u]
  have hs : ∀ w, (sizeOf e).run P w = .ok 1 w := fun w => by simp [sizeOf, typeInfo, h1, h3]
  rw [run_slice_h w T a n cap (by rw [he]; exact hT.u) k (i : Int) (by omega) (by omega), he, hs]
  have ha : a.map (·.add 0) = a := by
    cases a <;> simp [Addr.add]
  simp [Result.andThen, sliced, ha]
theorem reads_to {w : World} {N : Nat → Prop} {a : Option Addr} {n cap : Nat} {l : List UInt8} (h : Reads w N (.slice a n cap) l) (i : Nat) (hi : i ≤ l.length) : Reads w N (.slice a i cap) (l.take i) := by
  obtain ⟨⟨a0, cap0, he0, g1, g2, g3⟩, hc⟩ := h
  injection he0 with e1 e2 e3
  subst e1 e2 e3
  have hl : (l.take i).length = i := by rw [List.length_take]; omega
  refine ⟨⟨a, cap, by rw [hl], by omega, g2, g3⟩, fun b off m c he1 j hj => ?_⟩
  injection he1 with e1 e2 e3
  subst e1 e3
  rw [hl] at hj
  rw [hc b off _ _ rfl j (by omega)]
  simp
end Go.Proofs.YtplafpokgpolkaaGreatDoor
/- slices.DeleteFunc over names of the call's own. -/
namespace Go.Proofs.YtplafpokgpolkaaGreatDoor
open Go.RowKit
theorem slSt : SlTy Tryz.prog 38 9 (strV []) 16 := SlTy.mk' Tryz.underlying38 (by kernel_rfl) rfl
theorem slice_from_at {P : Program} {T e : TypeId} {z : Value} {bytes : Nat} (hT : SlTy P T e z bytes) (g n cap i : Nat) (k : IntKind) (hi : i ≤ n) (hc : i < cap) (w : World) :
    (Instr.slice T (.slice (some ⟨g, 0, none⟩) n cap) (some (.int k (i : Int))) none none).run P w = .ok (.slice (some ⟨g, i, none⟩) (n - i) (cap - i)) w := by
  obtain ⟨inf, h1, h2, h3, h4⟩ := hT.i
  have he : P.elem T = e := by simp [Program.elem, hT.u]
  have hs : ∀ w, (sizeOf e).run P w = .ok 1 w := fun w => by simp [sizeOf, typeInfo, h1, h3]
  rw [run_slice_l w T _ n cap (by rw [he]; exact hT.u) k (i : Int) (by omega) (by omega), he, hs]
  simp [Result.andThen, sliced, Addr.add_mid, Nat.ne_of_gt hc]
theorem row_setCells (b : Nat) (e : TypeId) : ∀ (vs : List Value) (o : Nat) (w : World) (c : Array Value), Row w b e c → ∃ c', Row (w.setCells b o vs) b e c' ∧ c'.size = c.size ∧ ∀ m, m < o → c'[m]? = c[m]?
  | [], _, w, c, h => ⟨c, h, rfl, fun _ _ => rfl⟩
  | v :: r, o, w, c, h => by
    obtain ⟨c', h1, h2, h3⟩ := row_setCells b e r (o + 1) _ _ (h.set o v)
    exact ⟨c', h1, by simpa using h2, fun m hm => by rw [h3 m (by omega), Array.getElem?_setIfInBounds_ne (by omega)]⟩
theorem chg_setCellsM (M : Nat → Prop) (B b : Nat) (hb : M b) : ∀ (vs : List Value) (o : Nat) (w : World), Chg M B w (w.setCells b o vs)
  | [], _, _w => .refl _ _ _
  | v :: r, o, _w => (Chg.setCell (M := M) (.refl _ _ _) (.inr hb) v).trans (chg_setCellsM M B b hb r (o + 1) _)
/-- what stays of the first j -/
def kp (p : List UInt8 → Bool) (l : List (List UInt8)) (j : Nat) : List (List UInt8) := (l.take j).filter fun x => !p x
theorem kp_le (p : List UInt8 → Bool) (l : List (List UInt8)) (j : Nat) : (kp p l j).length ≤ j := Nat.le_trans (List.length_filter_le _ _) (by rw [List.length_take]; omega)
theorem kp_succ (p : List UInt8 → Bool) (l : List (List UInt8)) (j : Nat) (hj : j < l.length) : kp p l (j + 1) = if p l[j] then kp p l j else kp p l j ++ [l[j]] := by
  unfold kp
  rw [List.take_succ_eq_append_getElem hj, List.filter_append]
  cases h : p l[j]
  · rw [List.filter_cons_of_pos (by simp [h])]; rfl
  · rw [List.filter_cons_of_neg (by simp [h])]; simp
theorem kp_all (p : List UInt8 → Bool) (l : List (List UInt8)) : kp p l l.length = l.filter fun x => !p x := by unfold kp; rw [List.take_length]
/-- the row while it is done -/
structure DF (p : List UInt8 → Bool) (l : List (List UInt8)) (cap : Nat) (c : Array Value) (j : Nat) : Prop where
  sz : c.size = cap
  pre : c.toList.take (kp p l j).length = (kp p l j).map strV
  post : ∀ m, j ≤ m → (h : m < l.length) → c[m]? = some (strV l[m])
theorem DF.skip {p : List UInt8 → Bool} {l : List (List UInt8)} {cap j : Nat} {c : Array Value} (h : DF p l cap c j) (hj : j < l.length) (hp : p l[j] = true) : DF p l cap c (j + 1) := by
  have hk := kp_succ p l j hj
  rw [if_pos hp] at hk
  exact ⟨h.sz, by rw [hk]; exact h.pre, fun m hm hl => h.post m (by omega) hl⟩
theorem DF.put {p : List UInt8 → Bool} {l : List (List UInt8)} {cap j : Nat} {c : Array Value} (h : DF p l cap c j) (hj : j < l.length) (hl : l.length ≤ cap) (hp : p l[j] = false) : DF p l cap (c.setIfInBounds (kp p l j).length (strV l[j])) (j + 1) := by
  have hk := kp_succ p l j hj
  rw [if_neg (by rw [hp]; decide)] at hk
  have hle := kp_le p l j
  have hs := h.sz
  refine ⟨by simp [hs], ?_, fun m hm hml => ?_⟩
  · rw [hk, List.length_append, List.length_singleton, List.map_append, ← h.pre]
    obtain ⟨c⟩ := c
    have hs : c.length = cap := hs
    rw [List.setIfInBounds_toArray]
    simp only
    rw [List.take_succ_eq_append_getElem (by rw [List.length_set]; omega), List.getElem_set_self, List.take_set_of_le (Nat.le_refl _)]
    rfl
  · rw [Array.getElem?_setIfInBounds_ne (by omega)]
    exact h.post m (by omega) hml
theorem owns_of_df {w : World} {base g cap : Nat} {c : Array Value} {m : List (List UInt8)} (hr : Row w g 9 c) (hb : base ≤ g) (hm : m.length ≤ cap) (hc : cap ≤ maxLen) (hs : c.size = cap) (hp : c.toList.take m.length = m.map strV) : OwnS w base (.slice (some ⟨g, 0, none⟩) m.length cap) m :=
  ⟨by simp, .inr ⟨g, cap, c, rfl, hb, hr, hm, hc, by omega, by rw [Nat.mul_one]; exact hp⟩⟩
end Go.Proofs.YtplafpokgpolkaaGreatDoor
/- path.Clean. -/
namespace Go.Proofs.YtplafpokgpolkaaGreatDoor
open Go.RowKit
theorem keptP_mem_len (l : List UInt8) (x : List UInt8) (hx : x ∈ keptP l) : x.length ≤ l.length := spl_mem_len l x (List.mem_filter.1 hx).1
theorem keptP_len (l : List UInt8) : (keptP l).length ≤ l.length + 1 := Nat.le_trans (List.length_filter_le _ _) (spl_length l)
/-- what is joined of some of the parts is no longer -/
theorem joinS_len : ∀ l : List (List UInt8), l ≠ [] → (joinS l).length + 1 = (l.map fun x => x.length + 1).sum
  | [], h => absurd rfl h
  | [x], _ => by simp [joinS]
  | x :: y :: r, _ => by
    have ih := joinS_len (y :: r) (by simp)
    rw [joinS, List.length_append, List.length_cons, List.map_cons, List.sum_cons, ← ih]
    omega
theorem joinS_filter_len (p : List UInt8 → Bool) (l : List (List UInt8)) (h : l ≠ []) : (joinS (l.filter p)).length ≤ (joinS l).length := by
  have h1 := joinS_len l h
  have h2 : ∀ l : List (List UInt8), ((l.filter p).map fun x => x.length + 1).sum ≤ (l.map fun x => x.length + 1).sum := by
    intro l
    induction l with
    | nil => simp
    | cons x l ih =>
      rw [List.filter_cons]
      split
      · simp only [List.map_cons, List.sum_cons]; omega
      · simp only [List.map_cons, List.sum_cons]; omega
  have h3 := h2 l
  by_cases he : l.filter p = []
  · rw [he]; simp [joinS]
  · have := joinS_len _ he
    omega
theorem keptP_join (l : List UInt8) : (joinS (keptP l)).length ≤ l.length := by
  have := joinS_filter_len (fun s => !(s.isEmpty || s == [46])) (spl l) (spl_ne l)
  rw [joinS_spl] at this
  exact this
end Go.Proofs.YtplafpokgpolkaaGreatDoor
/- THE TABLE OF CLASSES: a package-level map of functions, as the rows list it; what it tells at a class. -/
namespace Go.Proofs.YtplafpokgpolkaaGreatDoor
open Go.ChangeShapes Go.WideShapes Go.ChangeAt Go.RowKit
def clsFn (k : Nat) : FuncId := if k = 1 then 215 else if k = 2 then 216 else 217
/-- the world holds the table -/
def Cls (B : Nat) (w : World) : Prop := ∃ b, b < B ∧ 0 < B ∧ w.cell? ⟨0, 0, none⟩ = some (.map (some b)) ∧ ∃ (es : Array MapEntry) (clock : Nat) (R : Value → Option (DataW (List UInt8) × List MemPlace)),
  w.heap[b]? = some (.map es clock) ∧ WideElems.Fit Tryz.prog 3 R es clock ∧
  (∀ k : Nat, 1 ≤ k → k ≤ 3 → ∀ z, ∃ n, (DataW.map ((es.toList.map (WideElems.rg Tryz.prog 3 R)).foldr DataW.insert [])).atKey (.int .i64 (k : Int)) z = .held n ∧ ∀ v ps, R v = some (.held n, ps) → v = .func (.func (clsFn k)) #[] #[])
theorem Cls.on {B : Nat} {w w' : World} (h : Cls B w) (hb : Below B w w') : Cls B w' := by
  obtain ⟨b, h1, h2, h3, es, clock, R, h4, h5⟩ := h
  exact ⟨b, h1, h2, by rw [hb.cell (p := ⟨0, 0, none⟩) h2]; exact h3, es, clock, R, by rw [hb.block b h1]; exact h4, h5⟩
theorem zeroF : ∃ z, ∀ w, (zeroValue 114).run Tryz.prog w = .ok z w := ⟨.nilFunc, fun w => by kernel_rfl⟩
theorem Cls.look {B : Nat} {w : World} (h : Cls B w) (k : Nat) (h1 : 1 ≤ k) (h3 : k ≤ 3) : ∃ b, w.cell? ⟨0, 0, none⟩ = some (.map (some b)) ∧
    (Instr.lookup 115 (.map (some b)) (.int .i64 (k : Int)) false).run Tryz.prog w = .ok (.func (.func (clsFn k)) #[] #[]) w := by
  obtain ⟨b, _, _, hc, es, clock, R, h4, h5, h6⟩ := h
  refine ⟨b, hc, ?_⟩
  obtain ⟨z, hz⟩ := zeroF
  have hkey : keyOf Tryz.prog 3 (.int .i64 (k : Int)) = some (.int .i64 (k : Int)) := by
    have : (k = 1 ∨ k = 2 ∨ k = 3) := by omega
    rcases this with rfl | rfl | rfl <;> (simp [keyOf, mapKey, Tryz.underlying3]; decide)
  rcases Maps.fit_look false (Maps.int_keyed Tryz.underlying3) Tryz.underlying115 (hz w) h4 h5 hkey with ⟨_, -, h9⟩ | ⟨e0, y, -, -, h8, h9, h10, -⟩
  · obtain ⟨n, ha, _⟩ := h6 k h1 h3 .nil
    rw [h9] at ha
    cases ha
  · obtain ⟨n, ha, hf⟩ := h6 k h1 h3 .nil
    rw [h10] at ha
    obtain ⟨y1, y2⟩ := y
    simp only at ha
    subst ha
    rw [h8, hf _ _ h9]
    rfl
set_option maxRecDepth 100000 in
theorem cls_of_laid {W : World} {l : List (String × DataW Unit)} (hL : laidMetH Tryz.prog l W) (hm : ("portolan/path.classes", Rows.laid_portolan_path_classes) ∈ l) : Cls W.heap.size W := by
  obtain ⟨g, t, cs, fuel, p, hg, ht, hvar, hd⟩ := laidMetH.funcs hL hm
  obtain rfl : 0 = g := Option.some.inj ((show Tryz.prog.globalNamed "portolan/path.classes" = some 0 by kernel_rfl).symm.trans hg)
  obtain rfl : 115 = t := Option.some.inj ((show (Tryz.prog.globals[0]?).map (·.type) = some 115 by kernel_rfl).symm.trans ht)
  have hcell : W.cell? ⟨0, 0, none⟩ = cs[0]? ∧ 0 < W.heap.size := by
    unfold World.var? at hvar
    rw [hg] at hvar
    simp only [Option.bind_some] at hvar
    cases hw : W.heap[0]? with
    | none => simp [hw] at hvar
    | some o =>
      cases o <;> simp [hw] at hvar
      subst hvar
      exact ⟨by simp [World.cell?, hw], (Array.getElem?_eq_some_iff.1 hw).1⟩
  rcases WideElems.open_map Tryz.underlying115 hd with ⟨_, hx⟩ | ⟨b, es, clock, n, rfl, hcs, hb, _, hF, hx⟩
  · injection hx with hx _; cases hx
  · refine ⟨b, (Array.getElem?_eq_some_iff.1 hb).1, hcell.2, ?_, es, clock, _, hb, hF, ?_⟩
    · rw [hcell.1, ← Array.getElem?_toList, hcs]; rfl
    · injection hx with hx _
      rw [← hx]
      have inv : ∀ (c : UInt8) (r : List UInt8) (f0 : FuncId), ((List.range Tryz.prog.funcs.size).filter fun f => (Tryz.prog.funcs[f]?).any (·.name.toUTF8.data.toList == c :: r)) = [f0] → ∀ v ps, WideElems.elemAt (funcToken Tryz.prog) Tryz.prog W 0 (fun _ => true) true n 114 v = some (.held (c :: r), ps) → v = .func (.func f0) #[] #[] := by
        intro c r f0 hone v ps hR
        unfold WideElems.elemAt at hR
        split at hR
        · rename_i hf
          cases v with
          | agg cc => simp [Value.formed, Tryz.underlying114] at hf
          | _ => exact func_of_trod Tryz.underlying114 hone hR
        · cases hR
      intro k h1 h3 z
      have : (k = 1 ∨ k = 2 ∨ k = 3) := by omega
      rcases this with rfl | rfl | rfl
      · exact ⟨_, rfl, inv _ _ 215 (by decide +kernel)⟩
      · exact ⟨_, rfl, inv _ _ 216 (by decide +kernel)⟩
      · exact ⟨_, rfl, inv _ _ 217 (by decide +kernel)⟩
end Go.Proofs.YtplafpokgpolkaaGreatDoor
/- path.Class, Whiteout, Opaque. -/
namespace Go.Proofs.YtplafpokgpolkaaGreatDoor
open Go.RowKit
def whiteB : List UInt8 := [46, 119, 104, 46]
def markB : List UInt8 := [46, 119, 104, 46, 46, 119, 104, 46, 46, 111, 112, 113]
def tableB : List UInt8 := [46, 119, 104, 46, 46, 119, 104, 46, 116, 111, 99]
def dirP (p : List UInt8) : List UInt8 := p.take (cutAt p)
/-- the class of a last name -/
def lastC (b : List UInt8) : Nat := if b == markB then 3 else if whiteB.isPrefixOf b then 2 else 1
/-- a slash at the end is left out -/
def trimSl (d : List UInt8) : List UInt8 := if ([47] : List UInt8).isSuffixOf d then d.take (d.length - 1) else d
/-- the target, by the class -/
def tgtC (c : Nat) (d b : List UInt8) : List UInt8 := if c = 1 then d ++ b else if c = 2 then d ++ b.drop 4 else trimSl d
/-- Class -/
def classP (p : List UInt8) : Int × List UInt8 :=
  if p == tableB then (4, []) else
  if !mayP (tgtC (lastC (baseP p)) (dirP p) (baseP p)) || (lastC (baseP p) != 3 && (tgtC (lastC (baseP p)) (dirP p) (baseP p)).isEmpty) || (lastC (baseP p) == 2 && !mayN ((baseP p).drop 4)) || dirP p == [47] then (0, [])
  else ((lastC (baseP p) : Int), tgtC (lastC (baseP p)) (dirP p) (baseP p))
theorem last_any (b : List UInt8) (w : World) : Calls Tryz.prog 90 #[.string ⟨b.toArray⟩] w fun e w' => e = .returned (.int .i64 (lastC b : Int)) ∧ w = w' := by
  have HP : Keep (∀ w, Calls Tryz.prog 88 #[.string ⟨b.toArray⟩, .string ⟨#[46, 119, 104, 46]⟩] w fun e w' => e = .returned (.bool (whiteB.isPrefixOf b)) ∧ w' = w) := ⟨fun w => Tryz.strings_HasPrefix _ _ w⟩
  unfold lastC
  generalize whiteB.isPrefixOf b = b2 at *
  have hm : (b == markB) = (b == [46, 119, 104, 46, 46, 119, 104, 46, 46, 111, 112, 113]) := rfl
  rw [hm]
  generalize h1 : (b == [46, 119, 104, 46, 46, 119, 104, 46, 46, 111, 112, 113]) = b1
  clear hm
  cases b1 with
  | true =>
    go_enter Tryz.func90, Tryz.ntmps90
    go_wp2_with fail
    go_ret
    exact ⟨rfl, rfl⟩
  | false =>
    go_enter Tryz.func90, Tryz.ntmps90
    go_wp2_with fail
    refine (HP.out _).mono ?_
    rintro e w' ⟨rfl, rfl⟩
    cases b2 with
    | true =>
      go_wp2_with fail
      go_ret
      exact ⟨rfl, rfl⟩
    | false =>
      go_wp2_with fail
      go_ret
      exact ⟨rfl, rfl⟩
theorem c1_any (d b : List UInt8) (h : d.length + b.length ≤ 1000000000) (w : World) : Calls Tryz.prog 215 #[.string ⟨d.toArray⟩, .string ⟨b.toArray⟩] w fun e w' => e = .returned (.string ⟨(d ++ b).toArray⟩) ∧ w = w' := by
  have hc := run_cat (P := Tryz.prog) d b (by omega)
  generalize d ++ b = q at *
  go_enter Tryz.func215, Tryz.ntmps215
  go_wp2_with fail
  go_ret
  exact ⟨rfl, rfl⟩
theorem c2_any (d b : List UInt8) (h : d.length + b.length ≤ 1000000000) (h4 : 4 ≤ b.length) (w : World) : Calls Tryz.prog 216 #[.string ⟨d.toArray⟩, .string ⟨b.toArray⟩] w fun e w' => e = .returned (.string ⟨(d ++ b.drop 4).toArray⟩) ∧ w = w' := by
  have hk := run_slice_from (P := Tryz.prog) Tryz.underlying9 b .i64 4 h4
  have hk2 : ∀ w, (Instr.slice 9 (.string ⟨b.toArray⟩) (some (.int .i64 4)) none none).run Tryz.prog w = .ok (.string ⟨(b.drop 4).toArray⟩) w := hk
  have hc := run_cat (P := Tryz.prog) d (b.drop 4) (by simp; omega)
  clear hk
  generalize d ++ b.drop 4 = q at *
  generalize b.drop 4 = bd at *
  go_enter Tryz.func216, Tryz.ntmps216
  go_wp2_with fail
  go_ret
  exact ⟨rfl, rfl⟩
theorem c3_any (d b : List UInt8) (h : d.length ≤ 1000000000) (w : World) : Calls Tryz.prog 217 #[.string ⟨d.toArray⟩, .string ⟨b.toArray⟩] w fun e w' => e = .returned (.string ⟨(trimSl d).toArray⟩) ∧ w = w' := by
  have HT : Keep (∀ w, Calls Tryz.prog 91 #[.string ⟨d.toArray⟩, .string ⟨#[47]⟩] w fun e w' => e = .returned (.string ⟨(trimSl d).toArray⟩) ∧ w' = w) := ⟨fun w => Tryz.strings_TrimSuffix ⟨d.toArray⟩ ⟨#[47]⟩ w (by show d.length ≤ _; omega)⟩
  generalize trimSl d = q at *
  go_enter Tryz.func217, Tryz.ntmps217
  go_wp2_with fail
  refine (HT.out _).mono ?_
  rintro e w' ⟨rfl, rfl⟩
  go_wp2_with fail
  go_ret
  exact ⟨rfl, rfl⟩
theorem trim_base (p : List UInt8) : Lib.trimSuffix p (baseP p) = dirP p := by
  have h1 : Lib.hasSuffix p (baseP p) = true := by
    show (baseP p).isSuffixOf p = true
    rw [List.isSuffixOf_iff_suffix]
    exact List.drop_suffix _ _
  have hl : p.length - (baseP p).length = cutAt p := by
    have := cutAt_le p
    unfold baseP
    rw [List.length_drop]; omega
  unfold Lib.trimSuffix
  rw [if_pos h1, hl]; rfl
end Go.Proofs.YtplafpokgpolkaaGreatDoor
/- path.Class: the walk, class by class. -/
namespace Go.Proofs.YtplafpokgpolkaaGreatDoor
open Go.RowKit
theorem dir_base (p : List UInt8) : dirP p ++ baseP p = p := List.take_append_drop _ _
set_option maxHeartbeats 4000000 in
set_option maxRecDepth 100000 in
theorem class_1 (p : List UInt8) (hp : p.length ≤ 1000000) (B : Nat) (w : World) (hB : B ≤ w.heap.size) (hM : Mx B w) (hC : Cls B w) (ht : (p == tableB) = false) (hc : lastC (baseP p) = 1) :
    Calls Tryz.prog 46 #[.string ⟨p.toArray⟩] w fun e w' => e = .returned (.tuple #[.int .i64 (classP p).1, .string ⟨(classP p).2.toArray⟩]) ∧ Below w.heap.size w w' := by
  have HBA := Keep.keep (fun w => base_any p hp w)
  have HLA := Keep.keep (fun w => last_any (baseP p) w)
  have HTR : Keep (∀ w, Calls Tryz.prog 91 #[.string ⟨p.toArray⟩, .string ⟨(baseP p).toArray⟩] w fun e w' => e = .returned (.string ⟨(dirP p).toArray⟩) ∧ w' = w) := ⟨fun w => by
    have h := Tryz.strings_TrimSuffix ⟨p.toArray⟩ ⟨(baseP p).toArray⟩ w (by show p.length ≤ _; omega)
    rw [show Lib.trimSuffix (⟨p.toArray⟩ : ByteArray).data.toList (⟨(baseP p).toArray⟩ : ByteArray).data.toList = dirP p from trim_base p] at h
    exact h⟩
  have hlen : (dirP p).length + (baseP p).length = p.length := by rw [← List.length_append, dir_base]
  have htab : (p == [46, 119, 104, 46, 46, 119, 104, 46, 116, 111, 99]) = false := ht
  have HE : Keep (classP p = if !mayP (tgtC 1 (dirP p) (baseP p)) || ((1 : Nat) != 3 && (tgtC 1 (dirP p) (baseP p)).isEmpty) || ((1 : Nat) == 2 && !mayN ((baseP p).drop 4)) || dirP p == [47] then (0, []) else (1, tgtC 1 (dirP p) (baseP p))) := ⟨by
    unfold classP
    rw [ht, hc]; rfl⟩
  rw [hc] at HLA
  obtain ⟨bm, hcell, hlook⟩ := hC.look 1 (by decide) (by decide)
  have hlk : (Instr.lookup 115 (.map (some bm)) (.int .i64 1) false).run Tryz.prog w = .ok (.func (.func 215) #[] #[]) w := hlook
  have HCF := Keep.keep (fun w => c1_any (dirP p) (baseP p) (by omega) w)
  rw [show dirP p ++ baseP p = tgtC 1 (dirP p) (baseP p) from rfl] at HCF
  have htl : (tgtC 1 (dirP p) (baseP p)).length ≤ 1000000 := by show (dirP p ++ baseP p).length ≤ _; simp; omega
  have HMY := Keep.keep (fun wx (h : Below w.heap.size w wx) => may_any (tgtC 1 (dirP p) (baseP p)) htl B wx (Nat.le_trans hB h.size) (hM.on (h.mono hB)))
  have hbn := bne_nil (tgtC 1 (dirP p) (baseP p))
  generalize hd47 : (dirP p == [47]) = b4 at *
  generalize tgtC 1 (dirP p) (baseP p) = t at *
  generalize mayP t = b1 at *
  generalize t.isEmpty = b2 at *
  generalize classP p = out at *
  generalize dirP p = d at *
  generalize baseP p = bs at *
  clear hM hC hlen ht hc hlook htl
  go_enter Tryz.func46, Tryz.ntmps46
  go_wp2_with fail
  refine (HBA.out _).mono ?_
  rintro e w' ⟨rfl, rfl⟩
  go_wp2_with fail
  refine (HLA.out _).mono ?_
  rintro e w' ⟨rfl, rfl⟩
  go_wp2_with fail
  refine (HTR.out _).mono ?_
  rintro e w' ⟨rfl, rfl⟩
  go_wp2_with fail
  refine (HCF.out _).mono ?_
  rintro e w' ⟨rfl, rfl⟩
  go_wp2_with fail
  refine (HMY.out _ (Below.refl _ _)).mono ?_
  rintro e w1 ⟨rfl, hb1⟩
  have HB1 := Keep.keep hb1
  clear hb1 hlk hcell
  cases b1 with
  | false =>
    have HX : Keep (out = (0, [])) := ⟨by rw [HE.out]; rfl⟩
    go_wp2_with fail
    go_ret2
    exact ⟨by rw [HX.out]; rfl, HB1.out⟩
  | true =>
  cases b2 with
  | true =>
    have HX : Keep (out = (0, [])) := ⟨by rw [HE.out]; rfl⟩
    go_wp2_with fail
    go_ret2
    exact ⟨by rw [HX.out]; rfl, HB1.out⟩
  | false =>
  cases b4 with
  | true =>
    have HX : Keep (out = (0, [])) := ⟨by rw [HE.out]; rfl⟩
    go_wp2_with fail
    go_ret2
    exact ⟨by rw [HX.out]; rfl, HB1.out⟩
  | false =>
    have HX : Keep (out = (1, t)) := ⟨by rw [HE.out]; rfl⟩
    go_wp2_with fail
    go_ret2
    exact ⟨by rw [HX.out]; rfl, HB1.out⟩
set_option maxHeartbeats 4000000 in
set_option maxRecDepth 100000 in
theorem class_2 (p : List UInt8) (hp : p.length ≤ 1000000) (B : Nat) (w : World) (hB : B ≤ w.heap.size) (hM : Mx B w) (hC : Cls B w) (ht : (p == tableB) = false) (hc : lastC (baseP p) = 2) :
    Calls Tryz.prog 46 #[.string ⟨p.toArray⟩] w fun e w' => e = .returned (.tuple #[.int .i64 (classP p).1, .string ⟨(classP p).2.toArray⟩]) ∧ Below w.heap.size w w' := by
  have HBA := Keep.keep (fun w => base_any p hp w)
  have HLA := Keep.keep (fun w => last_any (baseP p) w)
  have HTR : Keep (∀ w, Calls Tryz.prog 91 #[.string ⟨p.toArray⟩, .string ⟨(baseP p).toArray⟩] w fun e w' => e = .returned (.string ⟨(dirP p).toArray⟩) ∧ w' = w) := ⟨fun w => by
    have h := Tryz.strings_TrimSuffix ⟨p.toArray⟩ ⟨(baseP p).toArray⟩ w (by show p.length ≤ _; omega)
    rw [show Lib.trimSuffix (⟨p.toArray⟩ : ByteArray).data.toList (⟨(baseP p).toArray⟩ : ByteArray).data.toList = dirP p from trim_base p] at h
    exact h⟩
  have hlen : (dirP p).length + (baseP p).length = p.length := by rw [← List.length_append, dir_base]
  have htab : (p == [46, 119, 104, 46, 46, 119, 104, 46, 116, 111, 99]) = false := ht
  have HE : Keep (classP p = if !mayP (tgtC 2 (dirP p) (baseP p)) || ((2 : Nat) != 3 && (tgtC 2 (dirP p) (baseP p)).isEmpty) || ((2 : Nat) == 2 && !mayN ((baseP p).drop 4)) || dirP p == [47] then (0, []) else (2, tgtC 2 (dirP p) (baseP p))) := ⟨by
    unfold classP
    rw [ht, hc]; rfl⟩
  rw [hc] at HLA
  obtain ⟨bm, hcell, hlook⟩ := hC.look 2 (by decide) (by decide)
  have hlk : (Instr.lookup 115 (.map (some bm)) (.int .i64 2) false).run Tryz.prog w = .ok (.func (.func 216) #[] #[]) w := hlook
  have h4 : 4 ≤ (baseP p).length := by
    unfold lastC at hc
    split at hc
    · omega
    · split at hc
      · rename_i h
        have := (List.isPrefixOf_iff_prefix.1 h).length_le
        simpa [whiteB] using this
      · omega
  have hk4 := run_slice_from (P := Tryz.prog) Tryz.underlying9 (baseP p) .i64 4 h4
  have hkb : ∀ w, (Instr.slice 9 (.string ⟨(baseP p).toArray⟩) (some (.int .i64 4)) none none).run Tryz.prog w = .ok (.string ⟨((baseP p).drop 4).toArray⟩) w := hk4
  have HCF := Keep.keep (fun w => c2_any (dirP p) (baseP p) (by omega) h4 w)
  have HMN := Keep.keep (fun w => mayname_any ((baseP p).drop 4) (by simp; omega) w)
  rw [show dirP p ++ (baseP p).drop 4 = tgtC 2 (dirP p) (baseP p) from rfl] at HCF
  have htl : (tgtC 2 (dirP p) (baseP p)).length ≤ 1000000 := by show (dirP p ++ (baseP p).drop 4).length ≤ _; simp; omega
  clear hk4
  have HMY := Keep.keep (fun wx (h : Below w.heap.size w wx) => may_any (tgtC 2 (dirP p) (baseP p)) htl B wx (Nat.le_trans hB h.size) (hM.on (h.mono hB)))
  have hbn := bne_nil (tgtC 2 (dirP p) (baseP p))
  generalize hd47 : (dirP p == [47]) = b4 at *
  generalize tgtC 2 (dirP p) (baseP p) = t at *
  generalize mayP t = b1 at *
  generalize t.isEmpty = b2 at *
  generalize classP p = out at *
  generalize mayN ((baseP p).drop 4) = b3 at *
  generalize (baseP p).drop 4 = bd at *
  generalize dirP p = d at *
  generalize baseP p = bs at *
  clear hM hC hlen ht hc hlook htl h4
  go_enter Tryz.func46, Tryz.ntmps46
  go_wp2_with fail
  refine (HBA.out _).mono ?_
  rintro e w' ⟨rfl, rfl⟩
  go_wp2_with fail
  refine (HLA.out _).mono ?_
  rintro e w' ⟨rfl, rfl⟩
  go_wp2_with fail
  refine (HTR.out _).mono ?_
  rintro e w' ⟨rfl, rfl⟩
  go_wp2_with fail
  refine (HCF.out _).mono ?_
  rintro e w' ⟨rfl, rfl⟩
  go_wp2_with fail
  refine (HMY.out _ (Below.refl _ _)).mono ?_
  rintro e w1 ⟨rfl, hb1⟩
  have HB1 := Keep.keep hb1
  clear hb1 hlk hcell
  cases b1 with
  | false =>
    have HX : Keep (out = (0, [])) := ⟨by rw [HE.out]; rfl⟩
    go_wp2_with fail
    go_ret2
    exact ⟨by rw [HX.out]; rfl, HB1.out⟩
  | true =>
  cases b2 with
  | true =>
    have HX : Keep (out = (0, [])) := ⟨by rw [HE.out]; rfl⟩
    go_wp2_with fail
    go_ret2
    exact ⟨by rw [HX.out]; rfl, HB1.out⟩
  | false =>
  go_wp2_with fail
  refine (HMN.out _).mono ?_
  rintro e w2 ⟨rfl, hb2⟩
  have HB2 := Keep.keep (HB1.out.trans (hb2.mono HB1.out.size))
  clear hb2
  cases b3 with
  | false =>
    have HX : Keep (out = (0, [])) := ⟨by rw [HE.out]; rfl⟩
    go_wp2_with fail
    go_ret2
    exact ⟨by rw [HX.out]; rfl, HB2.out⟩
  | true =>
  cases b4 with
  | true =>
    have HX : Keep (out = (0, [])) := ⟨by rw [HE.out]; rfl⟩
    go_wp2_with fail
    go_ret2
    exact ⟨by rw [HX.out]; rfl, HB2.out⟩
  | false =>
    have HX : Keep (out = (2, t)) := ⟨by rw [HE.out]; rfl⟩
    go_wp2_with fail
    go_ret2
    exact ⟨by rw [HX.out]; rfl, HB2.out⟩
set_option maxHeartbeats 4000000 in
set_option maxRecDepth 100000 in
theorem class_3 (p : List UInt8) (hp : p.length ≤ 1000000) (B : Nat) (w : World) (hB : B ≤ w.heap.size) (hM : Mx B w) (hC : Cls B w) (ht : (p == tableB) = false) (hc : lastC (baseP p) = 3) :
    Calls Tryz.prog 46 #[.string ⟨p.toArray⟩] w fun e w' => e = .returned (.tuple #[.int .i64 (classP p).1, .string ⟨(classP p).2.toArray⟩]) ∧ Below w.heap.size w w' := by
  have HBA := Keep.keep (fun w => base_any p hp w)
  have HLA := Keep.keep (fun w => last_any (baseP p) w)
  have HTR : Keep (∀ w, Calls Tryz.prog 91 #[.string ⟨p.toArray⟩, .string ⟨(baseP p).toArray⟩] w fun e w' => e = .returned (.string ⟨(dirP p).toArray⟩) ∧ w' = w) := ⟨fun w => by
    have h := Tryz.strings_TrimSuffix ⟨p.toArray⟩ ⟨(baseP p).toArray⟩ w (by show p.length ≤ _; omega)
    rw [show Lib.trimSuffix (⟨p.toArray⟩ : ByteArray).data.toList (⟨(baseP p).toArray⟩ : ByteArray).data.toList = dirP p from trim_base p] at h
    exact h⟩
  have hlen : (dirP p).length + (baseP p).length = p.length := by rw [← List.length_append, dir_base]
  have htab : (p == [46, 119, 104, 46, 46, 119, 104, 46, 116, 111, 99]) = false := ht
  have HE : Keep (classP p = if !mayP (tgtC 3 (dirP p) (baseP p)) || ((3 : Nat) != 3 && (tgtC 3 (dirP p) (baseP p)).isEmpty) || ((3 : Nat) == 2 && !mayN ((baseP p).drop 4)) || dirP p == [47] then (0, []) else (3, tgtC 3 (dirP p) (baseP p))) := ⟨by
    unfold classP
    rw [ht, hc]; rfl⟩
  rw [hc] at HLA
  obtain ⟨bm, hcell, hlook⟩ := hC.look 3 (by decide) (by decide)
  have hlk : (Instr.lookup 115 (.map (some bm)) (.int .i64 3) false).run Tryz.prog w = .ok (.func (.func 217) #[] #[]) w := hlook
  have HCF := Keep.keep (fun w => c3_any (dirP p) (baseP p) (by omega) w)
  rw [show trimSl (dirP p) = tgtC 3 (dirP p) (baseP p) from rfl] at HCF
  have htl : (tgtC 3 (dirP p) (baseP p)).length ≤ 1000000 := by
    show (trimSl (dirP p)).length ≤ _
    unfold trimSl
    split
    · rw [List.length_take]; omega
    · omega
  have HMY := Keep.keep (fun wx (h : Below w.heap.size w wx) => may_any (tgtC 3 (dirP p) (baseP p)) htl B wx (Nat.le_trans hB h.size) (hM.on (h.mono hB)))
  have hbn := bne_nil (tgtC 3 (dirP p) (baseP p))
  generalize hd47 : (dirP p == [47]) = b4 at *
  generalize tgtC 3 (dirP p) (baseP p) = t at *
  generalize mayP t = b1 at *
  generalize t.isEmpty = b2 at *
  generalize classP p = out at *
  generalize dirP p = d at *
  generalize baseP p = bs at *
  clear hM hC hlen ht hc hlook htl
  go_enter Tryz.func46, Tryz.ntmps46
  go_wp2_with fail
  refine (HBA.out _).mono ?_
  rintro e w' ⟨rfl, rfl⟩
  go_wp2_with fail
  refine (HLA.out _).mono ?_
  rintro e w' ⟨rfl, rfl⟩
  go_wp2_with fail
  refine (HTR.out _).mono ?_
  rintro e w' ⟨rfl, rfl⟩
  go_wp2_with fail
  refine (HCF.out _).mono ?_
  rintro e w' ⟨rfl, rfl⟩
  go_wp2_with fail
  refine (HMY.out _ (Below.refl _ _)).mono ?_
  rintro e w1 ⟨rfl, hb1⟩
  have HB1 := Keep.keep hb1
  clear hb1 hlk hcell
  cases b1 with
  | false =>
    have HX : Keep (out = (0, [])) := ⟨by rw [HE.out]; rfl⟩
    go_wp2_with fail
    go_ret2
    exact ⟨by rw [HX.out]; rfl, HB1.out⟩
  | true =>
  cases b4 with
  | true =>
    have HX : Keep (out = (0, [])) := ⟨by rw [HE.out]; rfl⟩
    go_wp2_with fail
    go_ret2
    exact ⟨by rw [HX.out]; rfl, HB1.out⟩
  | false =>
    have HX : Keep (out = (3, t)) := ⟨by rw [HE.out]; rfl⟩
    go_wp2_with fail
    go_ret2
    exact ⟨by rw [HX.out]; rfl, HB1.out⟩
set_option maxHeartbeats 4000000 in
theorem class_any (p : List UInt8) (hp : p.length ≤ 1000000) (B : Nat) (w : World) (hB : B ≤ w.heap.size) (hM : Mx B w) (hC : Cls B w) :
    Calls Tryz.prog 46 #[.string ⟨p.toArray⟩] w fun e w' => e = .returned (.tuple #[.int .i64 (classP p).1, .string ⟨(classP p).2.toArray⟩]) ∧ Below w.heap.size w w' := by
  cases ht : p == tableB with
  | true =>
    have HE : Keep (classP p = (4, [])) := ⟨by unfold classP; rw [ht]; rfl⟩
    have htab : (p == [46, 119, 104, 46, 46, 119, 104, 46, 116, 111, 99]) = true := ht
    clear hM hC ht
    go_enter Tryz.func46, Tryz.ntmps46
    go_wp2_with fail
    go_ret2
    exact ⟨by rw [HE.out]; rfl, Below.refl _ _⟩
  | false =>
    have h : lastC (baseP p) = 1 ∨ lastC (baseP p) = 2 ∨ lastC (baseP p) = 3 := by
      unfold lastC
      split
      · simp
      · split <;> simp
    rcases h with h | h | h
    · exact class_1 p hp B w hB hM hC ht h
    · exact class_2 p hp B w hB hM hC ht h
    · exact class_3 p hp B w hB hM hC ht h
end Go.Proofs.YtplafpokgpolkaaGreatDoor
/- NODES AND MEMBERS, plainly; how they lie in memory. -/
namespace Go.Proofs.YtplafpokgpolkaaGreatDoor
open Go.RowKit
abbrev R2 := Tx × Tx
structure Nd where
  kind : Int
  mode : Int
  uid : Int
  gid : Int
  time : Int
  attrs : List R2
  data : Tx
  link : Tx
abbrev Mb := Tx × Nd
/-- attributes, as cells -/
def rcells (l : List R2) : List Value := l.flatMap fun p => [strV p.1, strV p.2]
theorem rcells_cons (p : R2) (l : List R2) : rcells (p :: l) = strV p.1 :: strV p.2 :: rcells l := rfl
theorem rcells_append (l m : List R2) : rcells (l ++ m) = rcells l ++ rcells m := by simp [rcells]
theorem rcells_length : ∀ l : List R2, (rcells l).length = l.length * 2
  | [] => rfl
  | p :: l => by rw [rcells_cons]; simp [rcells_length l]; omega
theorem rcells_get : ∀ (l : List R2) (j : Nat) (h : j < l.length), (rcells l)[j * 2]? = some (strV l[j].1) ∧ (rcells l)[j * 2 + 1]? = some (strV l[j].2)
  | p :: l, 0, _ => ⟨rfl, rfl⟩
  | p :: l, j + 1, h => by
    have := rcells_get l j (by simpa using h)
    rw [rcells_cons]
    have e : (j + 1) * 2 = j * 2 + 2 := by omega
    rw [e]
    simpa using this
theorem rcells_one (l : List R2) : ∀ u ∈ rcells l, u.oneCell' = true := by
  intro u hu
  simp only [rcells, List.mem_flatMap, List.mem_cons, List.not_mem_nil, or_false] at hu
  obtain ⟨p, _, rfl | rfl⟩ := hu <;> rfl
/-- a node's cells; its attributes and its bytes are slices -/
def ndC (n : Nd) (av dv : Value) : Array Value := #[.int .i64 n.kind, .int .u32 n.mode, .int .u32 n.uid, .int .u32 n.gid, .int .i64 n.time, av, dv, strV n.link]
def mbC (m : Mb) (av dv : Value) : Array Value := #[strV m.1, .int .i64 m.2.kind, .int .u32 m.2.mode, .int .u32 m.2.uid, .int .u32 m.2.gid, .int .i64 m.2.time, av, dv, strV m.2.link]
/-- the slices of a node read as they should; their blocks are of N -/
structure NdR (w : World) (N : Nat → Prop) (n : Nd) (av dv : Value) : Prop where
  at_ : RdV w N 2 av n.attrs.length (rcells n.attrs)
  dt : Reads w N dv n.data
theorem NdR.mono {w : World} {N N' : Nat → Prop} {n : Nd} {av dv : Value} (h : NdR w N n av dv) (hN : ∀ b, N b → N' b) : NdR w N' n av dv := ⟨h.at_.mono hN, h.dt.mono hN⟩
theorem NdR.chg {M N : Nat → Prop} {w w' : World} {B : Nat} {n : Nd} {av dv : Value} (h : NdR w N n av dv) (hb : Chg M B w w') (hN : ∀ b, N b → b < B ∧ ¬ M b) : NdR w' N n av dv := ⟨h.at_.chg hb hN, h.dt.chg hb hN⟩
theorem NdR.below {N : Nat → Prop} {w w' : World} {B : Nat} {n : Nd} {av dv : Value} (h : NdR w N n av dv) (hb : Below B w w') (hN : ∀ b, N b → b < B) : NdR w' N n av dv := ⟨h.at_.below hb hN, h.dt.below hb hN⟩
/-- what is no longer than a million -/
structure Sm (m : Mb) : Prop where
  p : m.1.length ≤ 400000
  l : m.2.link.length ≤ 1000000
  d : m.2.data.length ≤ 1000000
  a : m.2.attrs.length ≤ 1000000
  n : ∀ x ∈ m.2.attrs, x.1.length ≤ 1000000 ∧ x.2.length ≤ 1000000
  k : -9223372036854775808 ≤ m.2.kind ∧ m.2.kind ≤ 9223372036854775807
/-- an attribute, at its place, that may not be -/
def badA (l : List R2) (k : Nat) : Bool :=
  match l[k]? with
  | none => false
  | some a => (a.1 == []) || decide (242 < a.1.length) || a.1.any ([0, 61, 10].contains ·) || (match k with | 0 => false | j + 1 => (match l[j]? with | some b => decide (a.1 ≤ b.1) | none => false))
def mayA (l : List R2) : Bool := (List.range l.length).all (fun k => !badA l k) && decide (l.length ≤ 16)
def mayL (s : Tx) (is : Bool) : Bool := if is then (s != []) && decide (s.length ≤ 4096) && !decide ((0 : UInt8) ∈ s) else s == []
/-- tar.May -/
def mayT (m : Mb) : Bool := decide (¬ (classP m.1).1 = 0) && decide (1 ≤ m.2.kind ∧ m.2.kind ≤ 4) && decide (m.2.mode ≤ 4095) && mayA m.2.attrs && mayL m.2.link (decide (m.2.kind = 3)) && decide (m.2.data.length ≤ 16777216) && (decide (m.2.kind = 2) || decide (m.2.data.length = 0))
/-- tree.May -/
def mayM (m : Mb) : Bool := decide ((classP m.1).1 = 1) && mayT m
end Go.Proofs.YtplafpokgpolkaaGreatDoor
/- THE TABLE OF KINDS' TYPES, as the rows list it; what it tells at a kind. -/
namespace Go.Proofs.YtplafpokgpolkaaGreatDoor
open Go.ChangeShapes Go.WideShapes Go.ChangeAt Go.RowKit
def kindT (k : Int) : Nat := if k = 1 then 53 else if k = 2 then 48 else if k = 3 then 50 else if k = 4 then 54 else 0
/-- the world holds the table -/
def Typ (B : Nat) (w : World) : Prop := ∃ b, b < B ∧ 1 < B ∧ w.cell? ⟨1, 0, none⟩ = some (.map (some b)) ∧ ∃ (es : Array MapEntry) (clock : Nat) (R : Value → Option (DataW Unit × List MemPlace)),
  w.heap[b]? = some (.map es clock) ∧ WideElems.Fit Tryz.prog 3 R es clock ∧ DataW.map ((es.toList.map (WideElems.rg Tryz.prog 3 R)).foldr DataW.insert []) = Rows.laid_portolan_tar_types ∧
  ∀ v c ps, R v = some (.lit (.int .u8 c), ps) → v = .int .u8 c
theorem Typ.on {B : Nat} {w w' : World} (h : Typ B w) (hb : Below B w w') : Typ B w' := by
  obtain ⟨b, h1, h2, h3, es, clock, R, h4, h5⟩ := h
  exact ⟨b, h1, h2, by rw [hb.cell (p := ⟨1, 0, none⟩) h2]; exact h3, es, clock, R, by rw [hb.block b h1]; exact h4, h5⟩
theorem zeroU8 (w : World) : (zeroValue 5).run Tryz.prog w = .ok (.int .u8 0) w := by kernel_rfl
theorem atKey_types (k : Int) (z : DataW Unit) : (Rows.laid_portolan_tar_types : DataW Unit).atKey (.int .i64 k) z = if kindT k = 0 then z else .lit (.int .u8 (kindT k : Int)) := by
  unfold Rows.laid_portolan_tar_types DataW.atKey kindT
  simp only [List.find?_cons, Lit.sameKey]
  by_cases h1 : k = 1
  · subst h1; rfl
  · by_cases h2 : k = 2
    · subst h2; rfl
    · by_cases h3 : k = 3
      · subst h3; rfl
      · by_cases h4 : k = 4
        · subst h4; rfl
        · simp [h1, h2, h3, h4, Ne.symm h1, Ne.symm h2, Ne.symm h3, Ne.symm h4]
theorem Typ.look {B : Nat} {w : World} (h : Typ B w) (k : Int) (hk : -9223372036854775808 ≤ k ∧ k ≤ 9223372036854775807) : ∃ b, w.cell? ⟨1, 0, none⟩ = some (.map (some b)) ∧
    (Instr.lookup 127 (.map (some b)) (.int .i64 k) false).run Tryz.prog w = .ok (.int .u8 (kindT k : Int)) w := by
  obtain ⟨b, h1, h2, h3, es, clock, R, h4, h5, h6, h7⟩ := h
  refine ⟨b, h3, ?_⟩
  have hwf : (Lit.int .i64 k).wf = true := by
    have e1 : IntKind.i64.min = -9223372036854775808 := rfl
    have e2 : IntKind.i64.max = 9223372036854775807 := rfl
    simp only [Lit.wf, e1, e2, Bool.and_eq_true, decide_eq_true_eq]; exact hk
  have hkey : keyOf Tryz.prog 3 (.int .i64 k) = some (.int .i64 k) := Maps.keyOf_int_mk Tryz.underlying3 hwf
  rcases Maps.fit_look false (Maps.int_keyed Tryz.underlying3) Tryz.underlying127 (zeroU8 w) h4 h5 hkey with ⟨h8, -, h9⟩ | ⟨e0, y, -, -, h8, h9, h10, -⟩
  · rw [h8]
    rw [h6] at h9
    have ha := h9 .nil
    rw [atKey_types] at ha
    by_cases hp : kindT k = 0
    · rw [hp]; rfl
    · rw [if_neg hp] at ha; cases ha
  · rw [h8]
    rw [h6] at h10
    have ha := h10 .nil
    have hb := h10 (.agg [])
    rw [atKey_types] at ha hb
    by_cases hp : kindT k = 0
    · rw [if_pos hp] at ha hb; rw [← ha] at hb; cases hb
    · rw [if_neg hp] at ha
      obtain ⟨y1, y2⟩ := y
      simp only at ha
      subst ha
      rw [h7 _ _ y2 h9]
      rfl
set_option maxRecDepth 100000 in
theorem typ_of_laid {W : World} {l : List (String × DataW Unit)} (hL : laidMet Tryz.prog l W) (hm : ("portolan/tar.types", Rows.laid_portolan_tar_types) ∈ l) : Typ W.heap.size W := by
  obtain ⟨g, t, cs, fuel, p, hg, ht, hvar, hd⟩ := Lib.laidMet.reads hL hm
  obtain rfl : 1 = g := Option.some.inj ((show Tryz.prog.globalNamed "portolan/tar.types" = some 1 by kernel_rfl).symm.trans hg)
  obtain rfl : 127 = t := Option.some.inj ((show (Tryz.prog.globals[1]?).map (·.type) = some 127 by kernel_rfl).symm.trans ht)
  have hcell : W.cell? ⟨1, 0, none⟩ = cs[0]? ∧ 1 < W.heap.size := by
    unfold World.var? at hvar
    rw [hg] at hvar
    simp only [Option.bind_some] at hvar
    cases hw : W.heap[1]? with
    | none => simp [hw] at hvar
    | some o =>
      cases o <;> simp [hw] at hvar
      subst hvar
      exact ⟨by simp [World.cell?, hw], (Array.getElem?_eq_some_iff.1 hw).1⟩
  rcases WideElems.open_map Tryz.underlying127 hd with ⟨_, hx⟩ | ⟨b, es, clock, n, rfl, hcs, hb, _, hF, hx⟩
  · injection hx with hx _; cases hx
  · refine ⟨b, (Array.getElem?_eq_some_iff.1 hb).1, hcell.2, ?_, es, clock, _, hb, hF, ?_, ?_⟩
    · rw [hcell.1, ← Array.getElem?_toList, hcs]; rfl
    · injection hx with hx _; exact hx.symm
    · intro v c ps hR
      unfold WideElems.elemAt at hR
      split at hR
      · rename_i hf
        obtain ⟨m, hm, he, _⟩ := DataW.trod_int Tryz.underlying5 hR
        injection he with he _
        injection he with he
        injection he with _ he
        subst he
        cases v with
        | agg cc => simp [Value.formed, Tryz.underlying5] at hf
        | tuple cc => simp [Value.formed] at hf
        | int k n => simpa [Value.cells] using hm
        | _ => simp [Value.cells] at hm
      · cases hR
end Go.Proofs.YtplafpokgpolkaaGreatDoor
/- CELLS THAT ARE READ in a class walk. -/
namespace Go.Proofs.YtplafpokgpolkaaGreatDoor
open Go.RowKit
section
variable {P : Program} {ops : Array Oper} {rest : List Oper} {a : Act} {C : World → Prop} {Q : Act → Prop} {tp : TypeId} {dst : Option Tmp} {pos : String} {after : Array Edge} {g : Option (Nat × Bool)}
/-- ARM: one plain cell is read -/
theorem cls_cell {b o : Nat} {ty : TypeId} {u : Value} {x : Operand} (hwt : Region.wanted (⟨dst, .load ty x, tp, pos, after, g⟩ : Oper) (yielded ops a.tmps) = true)
    (hc : ∀ w, C w → w.cell? ⟨b, o, none⟩ = some u) (hd : ∀ w, (isAgg ty).run P w = .ok false w) (hx : a.eval x = .pointer (some ⟨b, o, none⟩))
    (h : wpQuiet P ops C Q rest (a.put dst u)) : wpQuiet P ops C Q (⟨dst, .load ty x, tp, pos, after, g⟩ :: rest) a :=
  cls_op hwt (fun w hw => run_loadCell hd (hc w hw) hx) h
/-- ARM: an aggregate in the middle of a row is read -/
theorem cls_agg {b o : Nat} {ty : TypeId} {cs : List Value} {d : TypeDesc} {x : Operand} (hwt : Region.wanted (⟨dst, .load ty x, tp, pos, after, g⟩ : Oper) (yielded ops a.tmps) = true)
    (hc : ∀ w, C w → ∀ (j : Nat) (v : Value), cs[j]? = some v → w.cell? ⟨b, o + j, none⟩ = some v) (hu : P.underlying ty = some d) (hd : d.isRow = true) (hi : (P.info? ty).map (·.size) = some cs.length) (hx : a.eval x = .pointer (some ⟨b, o, none⟩))
    (h : wpQuiet P ops C Q rest (a.put dst (.agg cs.toArray))) : wpQuiet P ops C Q (⟨dst, .load ty x, tp, pos, after, g⟩ :: rest) a := by
  refine cls_op hwt (fun w hw => ?_) h
  have hl := run_loadAt_mid (P := P) w b o ty cs d (hc w hw) hu hd hi
  unfold execOp
  simp only [hx, Sem.run_bind, Sem.run_pure, Result.andThen_ok, hl]
end
end Go.Proofs.YtplafpokgpolkaaGreatDoor
/- tar.mayLink, tar.mayAttrs, tar.May; tree.May. -/
namespace Go.Proofs.YtplafpokgpolkaaGreatDoor
open Go.RowKit
theorem aggN : AggTy Tryz.prog 30 8 := ⟨⟨_, Tryz.underlying30, rfl⟩, by kernel_rfl⟩
theorem aggM : AggTy Tryz.prog 32 9 := ⟨⟨_, Tryz.underlying32, rfl⟩, by kernel_rfl⟩
theorem aggA : AggTy Tryz.prog 97 2 := ⟨⟨_, Tryz.underlying97, rfl⟩, by kernel_rfl⟩
theorem idx_neg (l : List UInt8) (c : UInt8) : decide (Lib.indexByte l c < 0) = !decide (c ∈ l) := by
  cases hc : decide (c ∈ l) with
  | false =>
    have : ∀ x ∈ l, x ≠ c := by
      intro x hx e
      subst e
      simp [hx] at hc
    rw [indexByte_no l c this]; rfl
  | true =>
    have hm : c ∈ l := by simpa using hc
    have : ¬ Lib.indexByte l c < 0 := by
      intro h
      have h1 := Lib.indexByte_ge l c
      have h2 : Lib.indexByte l c = -1 := by omega
      obtain ⟨k, hk, he⟩ := List.getElem_of_mem hm
      exact Lib.indexByte_none h2 k (by rw [List.getElem?_eq_getElem hk, he])
    simp [this]
set_option maxHeartbeats 400000 in
theorem mayl_any (s : Tx) (is : Bool) (w : World) :
    Calls Tryz.prog 117 #[.string ⟨s.toArray⟩, .bool is] w fun e w' => e = .returned (.bool (mayL s is)) ∧ w = w' := by
  have HI := Keep.keep (fun w => Tryz.strings_IndexByte ⟨s.toArray⟩ 0 w)
  have hx : decide (Lib.indexByte s 0 < 0) = !decide ((0 : UInt8) ∈ s) := idx_neg s 0
  cases is with
  | false =>
    go_enter Tryz.func117, Tryz.ntmps117
    go_wp2_with fail
    go_ret
    refine ⟨?_, rfl⟩
    cases s <;> rfl
  | true =>
    by_cases hs : s = []
    · subst hs
      go_enter Tryz.func117, Tryz.ntmps117
      go_wp2_with fail
      go_ret
      exact ⟨rfl, rfl⟩
    · have he : s.isEmpty = false := by simpa using hs
      have hz : mayL s true = (decide (s.length ≤ 4096) && !decide ((0 : UInt8) ∈ s)) := by
        have : (s != []) = true := by simpa using hs
        simp only [mayL, this, if_true, Bool.true_and]
      have HZ := Keep.keep hz
      clear hz hs
      by_cases hl : s.length ≤ 4096
      · have hd : decide ((s.length : Int) ≤ 4096) = true := decide_eq_true (by omega)
        have hdn : decide (s.length ≤ 4096) = true := decide_eq_true hl
        go_enter Tryz.func117, Tryz.ntmps117
        go_wp2_with fail
        refine (HI.out w).mono ?_
        rintro e w1 ⟨rfl, rfl⟩
        go_wp2_with fail
        go_ret
        refine ⟨?_, rfl⟩
        rw [HZ.out, hdn, Bool.true_and]
        rfl
      · have hd : decide ((s.length : Int) ≤ 4096) = false := decide_eq_false (by omega)
        have hdn : decide (s.length ≤ 4096) = false := decide_eq_false hl
        go_enter Tryz.func117, Tryz.ntmps117
        go_wp2_with fail
        go_ret
        refine ⟨?_, rfl⟩
        rw [HZ.out, hdn, Bool.false_and]
        rfl
theorem load2 {P : Program} {w : World} {b o : Nat} {ty : TypeId} {d : TypeDesc} {u v : Value} (h1 : w.cell? ⟨b, o, none⟩ = some u) (h2 : w.cell? ⟨b, o + 1, none⟩ = some v) (hu : P.underlying ty = some d) (hd : d.isRow = true) (hi : (P.info? ty).map (·.size) = some 2) :
    (Instr.loadAt ty (.pointer (some ⟨b, o, none⟩))).run P w = .ok (.agg #[u, v]) w :=
  run_loadAt_mid (P := P) w b o ty [u, v] d (fun j z hj => by
    match j, hj with
    | 0, hj => injection hj with hj; subst hj; exact h1
    | 1, hj => injection hj with hj; subst hj; exact h2
    | (j + 2), hj => simp at hj) hu hd hi
/-- an attribute's two cells -/
theorem attr_cells {w : World} {N : Nat → Prop} {l : List R2} {b off n cap : Nat} (h : RdV w N 2 (.slice (some ⟨b, off, none⟩) n cap) l.length (rcells l)) {k : Nat} (hk : k < l.length) :
    w.cell? ⟨b, off + k * 2, none⟩ = some (strV l[k].1) ∧ w.cell? ⟨b, off + k * 2 + 1, none⟩ = some (strV l[k].2) := by
  obtain ⟨h1, h2⟩ := rcells_get l k hk
  exact ⟨h.cell b off _ _ rfl _ _ h1, by rw [Nat.add_assoc]; exact h.cell b off _ _ rfl _ _ h2⟩
theorem mayA_bad {l : List R2} {k : Nat} (hk : k < l.length) (h : badA l k = true) : mayA l = false := by
  unfold mayA
  have : (List.range l.length).all (fun k => !badA l k) = false := by
    rw [List.all_eq_false]
    exact ⟨k, by simpa using hk, by simp [h]⟩
  rw [this]; rfl
theorem mayA_ok {l : List R2} (h : ∀ k, k < l.length → badA l k = false) : mayA l = decide (l.length ≤ 16) := by
  unfold mayA
  have : (List.range l.length).all (fun k => !badA l k) = true := by
    rw [List.all_eq_true]
    intro k hk
    simp [h k (by simpa using hk)]
  rw [this]; rfl
set_option maxHeartbeats 1000000 in
set_option maxRecDepth 100000 in
theorem maya_any (av : Value) (l : List R2) (hl : l.length ≤ 1000000) (hn : ∀ x ∈ l, x.1.length ≤ 1000000 ∧ x.2.length ≤ 1000000) (w : World) (hr : RdV w (· < w.heap.size) 2 av l.length (rcells l)) :
    Calls Tryz.prog 116 #[av] w fun e w' => e = .returned (.bool (mayA l)) ∧ Below w.heap.size w w' := by
  obtain ⟨a, cap, rfl, h1, h2, h3⟩ := hr.shape
  have HR := Keep.keep hr; have HN := Keep.keep hn; have H3 := Keep.keep h3
  clear hr hn h3
  unfold maxLen at h2
  obtain ⟨n, hnl⟩ : ∃ n, l.length = n := ⟨_, rfl⟩
  have HL := Keep.keep hnl
  rw [hnl] at hl h1 ⊢
  clear hnl
  go_enter Tryz.func116, Tryz.ntmps116
  go_wp2_with fail
  go_loopg [3, 4, 7] n (fun g _ _ u7 wx => ∃ k : Nat, k + g = n ∧ u7 = .int .i64 (k : Int) ∧ Below w.heap.size w wx ∧ ∀ j, j < k → badA l j = false)
  case atStart => exact ⟨0, by omega, rfl, Below.refl _ _, fun j hj => by omega⟩
  case round =>
    obtain ⟨k, hkg, rfl, hb, hok⟩ := hrel
    have HB := Keep.keep hb; have HOK := Keep.keep hok
    clear hb hok
    by_cases hk : k < n
    · have hd : decide ((k : Int) < (n : Int)) = true := decide_eq_true (by omega)
      have hkl : k < l.length := by rw [HL.out]; exact hk
      obtain ⟨b, off, rfl, hbl⟩ : ∃ b off, a = some ⟨b, off, none⟩ ∧ b < w.heap.size := by
        rcases H3.out with h | ⟨b, off, h, hb⟩
        · omega
        · exact ⟨b, off, h, hb⟩
      have hr2 := HR.out.below HB.out (fun b hb => hb)
      obtain ⟨ca, cb⟩ := attr_cells hr2 hkl
      have HR2 := Keep.keep hr2
      have hsm := HN.out _ (List.getElem_mem hkl)
      obtain ⟨x, hx⟩ : ∃ x, l[k] = x := ⟨_, rfl⟩
      have HX : Keep (l[k]? = some x) := ⟨by rw [List.getElem?_eq_getElem hkl, hx]⟩
      rw [hx] at hsm ca cb
      have HBA : Keep (badA l k = ((x.1 == []) || decide (242 < x.1.length) || x.1.any ([0, 61, 10].contains ·) || (match k with | 0 => false | j + 1 => (match l[j]? with | some b => decide (x.1 ≤ b.1) | none => false)))) := ⟨by
        unfold badA; (rw [HX.out]) <;> rfl⟩
      have HCA := Keep.keep (fun w => cany_any x.1 [0, 61, 10] (by decide) (by decide) (by decide) (by have := hsm.1; omega) w)
      obtain ⟨bc, hbc⟩ : ∃ bc, (x.1.any ([0, 61, 10].contains ·)) = bc := ⟨_, rfl⟩
      simp only [hbc] at HCA
      rw [hbc] at HBA
      clear hbc
      clear hr2 hx
      unfold strV at ca cb
      go_upto_region 4 with fail
      refine wp_world (R := fun w2 => Row w2 wr.heap.size 97 #[strV x.1, strV x.2] ∧ Below w.heap.size w w2) ⟨?_, ?_⟩ ?_
      · exact Row.new _ _ _
      · exact HB.out.alloc HB.out.size _
      intro w2 H2
      have hrow := H2.out.1
      clear ca cb
      have ca := hrow.cell (i := 0) rfl
      generalize wr.heap.size = T at *
      unfold strV at ca
      have HC1 : Keep (∀ wx, Below w2.heap.size w2 wx → wx.cell? ⟨T, 0, none⟩ = some (.string ⟨x.1.toArray⟩)) := ⟨fun wx h => by rw [h.cell (p := ⟨T, 0, none⟩) hrow.lt]; exact ca⟩
      have HCA' := Keep.keep (fun (wx : World) (_ : Below w2.heap.size w2 wx) => HCA.out wx)
      have HFIN : Keep (∀ w3, Below w2.heap.size w2 w3 → Below w.heap.size w w3) := ⟨fun w3 h => H2.out.2.trans (h.mono H2.out.2.size)⟩
      have hxl := hsm.1
      clear hrow ca
      by_cases e1 : x.1 = []
      · have he : x.1.isEmpty = true := by rw [e1]; rfl
        have HCP : Keep (∀ wx, Below w2.heap.size w2 wx → wx.cell? ⟨T, 0, none⟩ = some (.string ⟨x.1.toArray⟩)) := HC1
        have HBAD : Keep (badA l k = true) := ⟨by rw [HBA.out, e1]; rfl⟩
        refine wp_region_cls (fun w' => Below w2.heap.size w2 w') (by kernel_rfl) (by kernel_rfl) (Below.refl _ _).drew ?_
        repeat (first
          | ((with_reducible refine cls_cell ?_ HC1.out (run_isAgg_plain Tryz.underlying9 rfl) ?_ ?_); (focus rfl); (focus rfl); simp only [Act.put, List.setIfInBounds_toArray, List.set_cons_succ, List.set_cons_zero])
          | ((with_reducible refine cls_cell ?_ HCP.out (run_isAgg_plain Tryz.underlying9 rfl) ?_ ?_); (focus rfl); (focus rfl); simp only [Act.put, List.setIfInBounds_toArray, List.set_cons_succ, List.set_cons_zero])
          | ((with_reducible refine cls_call (f := 126) ?_ (Go.Proofs.enters_of Tryz.func126 (by kernel_rfl) rfl) ?_ (fun w1 hw1 => (HCA'.out w1 hw1).mono (fun e w2 he => ⟨he.1, hw1.trans (he.2.mono hw1.size)⟩)) ?_); (focus rfl); (focus (first | exact Array.map_empty | (simp only [List.map_toArray, List.map_cons, List.map_nil]; rfl))); simp only [Act.put, List.setIfInBounds_toArray, List.set_cons_succ, List.set_cons_zero])
          | (first | go_big_quiet_step (fail) | (go_big_quiet_want; go_big_quiet_op; (refine ⟨_, fun _ _ => rfl, ?_⟩); go_big_quiet_on)))
        (refine wpQuiet_nil ?_); intro w3 hw3
        go_wp2_with fail
        go_ret
        exact ⟨by rw [mayA_bad hkl HBAD.out]; rfl, HFIN.out w3 hw3⟩
      · have he : x.1.isEmpty = false := by simpa using e1
        have hne : (x.1 == []) = false := by simpa using e1
        have HCP0 := HC1
        by_cases e2 : 242 < x.1.length
        · have hd2 : decide ((242 : Int) < (x.1.length : Int)) = true := decide_eq_true (by omega)
          have HCP := HC1
          have HBAD : Keep (badA l k = true) := ⟨by rw [HBA.out, hne, decide_eq_true e2]; rfl⟩
          refine wp_region_cls (fun w' => Below w2.heap.size w2 w') (by kernel_rfl) (by kernel_rfl) (Below.refl _ _).drew ?_
          repeat (first
            | ((with_reducible refine cls_cell ?_ HC1.out (run_isAgg_plain Tryz.underlying9 rfl) ?_ ?_); (focus rfl); (focus rfl); simp only [Act.put, List.setIfInBounds_toArray, List.set_cons_succ, List.set_cons_zero])
            | ((with_reducible refine cls_cell ?_ HCP.out (run_isAgg_plain Tryz.underlying9 rfl) ?_ ?_); (focus rfl); (focus rfl); simp only [Act.put, List.setIfInBounds_toArray, List.set_cons_succ, List.set_cons_zero])
            | ((with_reducible refine cls_call (f := 126) ?_ (Go.Proofs.enters_of Tryz.func126 (by kernel_rfl) rfl) ?_ (fun w1 hw1 => (HCA'.out w1 hw1).mono (fun e w2 he => ⟨he.1, hw1.trans (he.2.mono hw1.size)⟩)) ?_); (focus rfl); (focus (first | exact Array.map_empty | (simp only [List.map_toArray, List.map_cons, List.map_nil]; rfl))); simp only [Act.put, List.setIfInBounds_toArray, List.set_cons_succ, List.set_cons_zero])
            | (first | go_big_quiet_step (fail) | (go_big_quiet_want; go_big_quiet_op; (refine ⟨_, fun _ _ => rfl, ?_⟩); go_big_quiet_on)))
          (refine wpQuiet_nil ?_); intro w3 hw3
          go_wp2_with fail
          go_ret
          exact ⟨by rw [mayA_bad hkl HBAD.out]; rfl, HFIN.out w3 hw3⟩
        · have hd2 : decide ((242 : Int) < (x.1.length : Int)) = false := decide_eq_false (by omega)
          cases bc with
          | true =>
            have HCP := HC1
            have HBAD : Keep (badA l k = true) := ⟨by rw [HBA.out, hne, decide_eq_false e2]; rfl⟩
            refine wp_region_cls (fun w' => Below w2.heap.size w2 w') (by kernel_rfl) (by kernel_rfl) (Below.refl _ _).drew ?_
            repeat (first
              | ((with_reducible refine cls_cell ?_ HC1.out (run_isAgg_plain Tryz.underlying9 rfl) ?_ ?_); (focus rfl); (focus rfl); simp only [Act.put, List.setIfInBounds_toArray, List.set_cons_succ, List.set_cons_zero])
              | ((with_reducible refine cls_cell ?_ HCP.out (run_isAgg_plain Tryz.underlying9 rfl) ?_ ?_); (focus rfl); (focus rfl); simp only [Act.put, List.setIfInBounds_toArray, List.set_cons_succ, List.set_cons_zero])
              | ((with_reducible refine cls_call (f := 126) ?_ (Go.Proofs.enters_of Tryz.func126 (by kernel_rfl) rfl) ?_ (fun w1 hw1 => (HCA'.out w1 hw1).mono (fun e w2 he => ⟨he.1, hw1.trans (he.2.mono hw1.size)⟩)) ?_); (focus rfl); (focus (first | exact Array.map_empty | (simp only [List.map_toArray, List.map_cons, List.map_nil]; rfl))); simp only [Act.put, List.setIfInBounds_toArray, List.set_cons_succ, List.set_cons_zero])
              | (first | go_big_quiet_step (fail) | (go_big_quiet_want; go_big_quiet_op; (refine ⟨_, fun _ _ => rfl, ?_⟩); go_big_quiet_on)))
            (refine wpQuiet_nil ?_); intro w3 hw3
            go_wp2_with fail
            go_ret
            exact ⟨by rw [mayA_bad hkl HBAD.out]; rfl, HFIN.out w3 hw3⟩
          | false =>
            cases k with
            | zero =>
              have HCP := HC1
              have HGOOD : Keep (badA l 0 = false) := ⟨by rw [HBA.out, hne, decide_eq_false e2]; rfl⟩
              refine wp_region_cls (fun w' => Below w2.heap.size w2 w') (by kernel_rfl) (by kernel_rfl) (Below.refl _ _).drew ?_
              repeat (first
                | ((with_reducible refine cls_cell ?_ HC1.out (run_isAgg_plain Tryz.underlying9 rfl) ?_ ?_); (focus rfl); (focus rfl); simp only [Act.put, List.setIfInBounds_toArray, List.set_cons_succ, List.set_cons_zero])
                | ((with_reducible refine cls_cell ?_ HCP.out (run_isAgg_plain Tryz.underlying9 rfl) ?_ ?_); (focus rfl); (focus rfl); simp only [Act.put, List.setIfInBounds_toArray, List.set_cons_succ, List.set_cons_zero])
                | ((with_reducible refine cls_call (f := 126) ?_ (Go.Proofs.enters_of Tryz.func126 (by kernel_rfl) rfl) ?_ (fun w1 hw1 => (HCA'.out w1 hw1).mono (fun e w2 he => ⟨he.1, hw1.trans (he.2.mono hw1.size)⟩)) ?_); (focus rfl); (focus (first | exact Array.map_empty | (simp only [List.map_toArray, List.map_cons, List.map_nil]; rfl))); simp only [Act.put, List.setIfInBounds_toArray, List.set_cons_succ, List.set_cons_zero])
                | (first | go_big_quiet_step (fail) | (go_big_quiet_want; go_big_quiet_op; (refine ⟨_, fun _ _ => rfl, ?_⟩); go_big_quiet_on)))
              (refine wpQuiet_nil ?_); intro w3 hw3
              go_wp2_with fail
              obtain ⟨g, rfl⟩ : ∃ g, gk = g + 1 := ⟨gk - 1, by omega⟩
              go_roundg g
              case measure => omega
              case rel => exact ⟨1, by omega, by simp, HFIN.out w3 hw3, fun j hj => by
                by_cases e : j = 0
                · rw [e]; exact HGOOD.out
                · exact HOK.out j (by omega)⟩
            | succ j =>
              have hjl : j < l.length := by omega
              have HCP : Keep (∀ wx, Below w2.heap.size w2 wx → wx.cell? ⟨b, off + j * 2, none⟩ = some (.string ⟨l[j].1.toArray⟩)) := ⟨fun wx h => (attr_cells (HR.out.below (H2.out.2.trans (h.mono H2.out.2.size)) (fun b hb => hb)) hjl).1⟩
              have hlj : l[j]? = some l[j] := List.getElem?_eq_getElem hjl
              have HLE : Keep (badA l (j + 1) = decide (x.1 ≤ l[j].1)) := ⟨by rw [HBA.out, hne, decide_eq_false e2]; simp only [hlj]; rfl⟩
              clear hlj
              have hys := (HN.out _ (List.getElem_mem hjl)).1
              generalize l[j].1 = y at *
              have hk1 : ((j + 1 : Nat) : Int) - 1 = (j : Int) := by omega
              have hk2 : (j : Int) + 1 - 1 = (j : Int) := by omega
              have hk0 : decide ((0 : Int) < ((j + 1 : Nat) : Int)) = true := decide_eq_true (by omega)
              have hk3 : decide ((0 : Int) < (j : Int) + 1) = true := decide_eq_true (by omega)
              refine wp_region_cls (fun w' => Below w2.heap.size w2 w') (by kernel_rfl) (by kernel_rfl) (Below.refl _ _).drew ?_
              repeat (first
                | ((with_reducible refine cls_cell ?_ HC1.out (run_isAgg_plain Tryz.underlying9 rfl) ?_ ?_); (focus rfl); (focus rfl); simp only [Act.put, List.setIfInBounds_toArray, List.set_cons_succ, List.set_cons_zero])
                | ((with_reducible refine cls_cell ?_ HCP.out (run_isAgg_plain Tryz.underlying9 rfl) ?_ ?_); (focus rfl); (focus rfl); simp only [Act.put, List.setIfInBounds_toArray, List.set_cons_succ, List.set_cons_zero])
                | ((with_reducible refine cls_call (f := 126) ?_ (Go.Proofs.enters_of Tryz.func126 (by kernel_rfl) rfl) ?_ (fun w1 hw1 => (HCA'.out w1 hw1).mono (fun e w2 he => ⟨he.1, hw1.trans (he.2.mono hw1.size)⟩)) ?_); (focus rfl); (focus (first | exact Array.map_empty | (simp only [List.map_toArray, List.map_cons, List.map_nil]; rfl))); simp only [Act.put, List.setIfInBounds_toArray, List.set_cons_succ, List.set_cons_zero])
                | (first | go_big_quiet_step (fail) | (go_big_quiet_want; go_big_quiet_op; (refine ⟨_, fun _ _ => rfl, ?_⟩); go_big_quiet_on)))
              have hbl : Op.bytesLess y x.1 = !decide (x.1 ≤ y) := by rw [less_lt, ← decide_not]; exact decide_eq_decide.2 List.not_le.symm
              (refine wpQuiet_nil ?_); intro w3 hw3
              cases hxy : decide (x.1 ≤ y) with
              | true =>
                have HBAD : Keep (badA l (j + 1) = true) := ⟨by rw [HLE.out, hxy]⟩
                replace hbl : Op.bytesLess y x.1 = false := by rw [hbl, hxy]; rfl
                clear hxy
                simp only [hbl, Bool.not_false]
                go_wp2_with fail
                go_ret
                exact ⟨by rw [mayA_bad hkl HBAD.out]; rfl, HFIN.out w3 hw3⟩
              | false =>
                have HGOOD : Keep (badA l (j + 1) = false) := ⟨by rw [HLE.out, hxy]⟩
                replace hbl : Op.bytesLess y x.1 = true := by rw [hbl, hxy]; rfl
                clear hxy
                simp only [hbl, Bool.not_true]
                go_wp2_with fail
                obtain ⟨g, rfl⟩ : ∃ g, gk = g + 1 := ⟨gk - 1, by omega⟩
                go_roundg g
                case measure => omega
                case rel => exact ⟨j + 1 + 1, by omega, by simp, HFIN.out w3 hw3, fun i hi => by
                  by_cases e : i = j + 1
                  · rw [e]; exact HGOOD.out
                  · exact HOK.out i (by omega)⟩
    · have hd : decide ((k : Int) < (n : Int)) = false := decide_eq_false (by omega)
      have HOUT : Keep (mayA l = decide (n ≤ 16)) := ⟨by rw [mayA_ok (fun j hj => HOK.out j (by rw [HL.out] at hj; omega)), HL.out]⟩
      have hd16 : decide ((n : Int) ≤ 16) = decide (n ≤ 16) := decide_eq_decide.2 (by omega)
      go_wp2_with fail
      go_ret
      exact ⟨by rw [HOUT.out, ← hd16]; rfl, HB.out⟩
end Go.Proofs.YtplafpokgpolkaaGreatDoor
/- A REGION THAT DRAWS ITS ORDER, ONE FACT AN OPERATION: what each operation yields is said of its value and of the world (a predicate that stays true when memory is added); an operation may use what is said of those that it waits for. -/
namespace Go.Proofs.YtplafpokgpolkaaGreatDoor
open Go.RowKit
/-- what op i waits for -/
theorem waits_of {ops : Array Oper} {i j : Nat} {o : Oper} (ho : ops[i]? = some o) (h : Region.waitsFor .any ops i j = true) : ∃ e ∈ o.after, Region.binds .any e = true ∧ e.on = j := by
  obtain ⟨oj, h1, h2⟩ := Region.waitsFor_spec h
  obtain rfl := Option.some.inj (ho.symm.trans h1)
  exact h2
theorem getD_set_iff {d : Array Bool} {i j : Nat} (h : (d.setIfInBounds i true).getD j false = true) : i = j ∨ d.getD j false = true := by
  by_cases e : i = j
  · exact .inl e
  · right; simpa [Array.getD_eq_getD_getElem?, Array.getElem?_setIfInBounds_ne e] using h
theorem wpOp_dst {P : Program} {ops : Array Oper} {Q : Exit → Act → World → Prop} {K K' : Act → World → Prop} {i : Nat} {a : Act} {w : World} (h : ∀ a w, K a w → K' a w) (hh : wpOp P ops Q i K a w) : wpOp P ops Q i K' a w := wpOp_mono h hh
/-- D: the slots, one an operation; C: the class of worlds; St: what every operation does to the world; T i v w: what is said of operation i's value v in world w -/
theorem wp_region_spcS {P : Program} {ops : Array Oper} {id : Nat} {Q : Exit → Act → World → Prop} {a : Act} {w : World} (D : List Nat) (C : World → Prop) (T : Nat → Value → World → Prop) (St : World → World → Prop) (hm : P.follows .mixedOrders = true)
    (hD : ops.toList.map (·.dst) = D.map some) (hnd : D.Nodup) (hds : ∀ d ∈ D, d < a.tmps.size) (hB : inOrderB ops = true) (h0 : C w.drew)
    (hst : ∀ i v w w', T i v w → C w → St w w' → T i v w')
    (hs : ∀ i, i < ops.size → ∀ a1 w1, Fr a D a1 → C w1 → (∀ j, Region.waitsFor .any ops i j = true → T j (slot a1 (D.getD j 0)) w1) →
      wpOp P ops Q i (fun a2 w2 => ∃ v, a2 = a1.put (some (D.getD i 0)) v ∧ C w2 ∧ St w1 w2 ∧ T i v w2) a1 w1)
    (he : ∀ a1 w1, a1 = D.foldl (fun b d => b.put (some d) (slot a1 d)) a → C w1 → (∀ j, j < ops.size → T j (slot a1 (D.getD j 0)) w1) → Q .normal a1 w1) : (Code.region id ops true).wp P Q a w := by
  have hlen : D.length = ops.size := by have := congrArg List.length hD; simpa using this.symm
  have hmem : ∀ i, i < ops.size → D.getD i 0 ∈ D := fun i hi => by
    rw [List.getD_eq_getElem?_getD, List.getElem?_eq_getElem (by omega)]
    exact List.getElem_mem _
  have hinj : ∀ i j, i < ops.size → j < ops.size → D.getD i 0 = D.getD j 0 → i = j := fun i j hi hj h => by
    rw [List.getD_eq_getElem?_getD, List.getD_eq_getElem?_getD, List.getElem?_eq_getElem (by omega), List.getElem?_eq_getElem (by omega)] at h
    exact (List.getElem_inj hnd).1 h
  refine wp_region_fr D (fun done s w1 => C w1 ∧ ∀ j, j < ops.size → done.getD j false = true → T j (s (D.getD j 0)) w1) hm ⟨h0, fun j hj hd => ?_⟩ ?_ ?_
  · simp [Array.getD_eq_getD_getElem?, hj] at hd
  · intro done a1 w1 hF hI hz hcl i hi
    have hlt := ready_lt hi
    refine wpOp_mono ?_ (hs i hlt a1 w1 hF hI.1 (fun j hj => ?_))
    · rintro a2 w2 ⟨v, rfl, hC2, hb, hT⟩
      refine ⟨hF.put _ (hmem i hlt) v, hC2, fun j hj hd => ?_⟩
      by_cases e : i = j
      · subst e
        rw [slot_put_same _ _ _ (by rw [hF.size]; exact hds _ (hmem i hlt))]
        exact hT
      · have hd' := (getD_set_iff hd).resolve_left e
        rw [slot_put_ne _ _ _ _ (fun e2 => e (hinj i j hlt hj e2))]
        exact hst j _ _ _ (hI.2 j hj hd') hI.1 hb
    · obtain ⟨e, he1, he2, he3⟩ := waits_of (Array.getElem?_eq_getElem hlt) hj
      have hdn := (ready_at hi (Array.getElem?_eq_getElem hlt)).2 e he1 he2
      rw [he3] at hdn
      refine hI.2 j ?_ hdn
      rcases Nat.lt_or_ge j done.size with h | h
      · omega
      · simp [Array.getD_eq_getD_getElem?, Array.getElem?_eq_none h] at hdn
  · intro done a1 w1 ha hI hz hr
    exact he a1 w1 ha hI.1 (fun j hj => hI.2 j hj (all_done hB hz hr j hj))
/-- D: the slots, one an operation; C: the class of worlds; T i v w: what is said of operation i's value v in world w -/
theorem wp_region_spc {P : Program} {ops : Array Oper} {id : Nat} {Q : Exit → Act → World → Prop} {a : Act} {w : World} (D : List Nat) (C : World → Prop) (T : Nat → Value → World → Prop) (hm : P.follows .mixedOrders = true)
    (hD : ops.toList.map (·.dst) = D.map some) (hnd : D.Nodup) (hds : ∀ d ∈ D, d < a.tmps.size) (hB : inOrderB ops = true) (h0 : C w.drew)
    (hst : ∀ i v w w', T i v w → C w → Below w.heap.size w w' → T i v w')
    (hs : ∀ i, i < ops.size → ∀ a1 w1, Fr a D a1 → C w1 → (∀ j, Region.waitsFor .any ops i j = true → T j (slot a1 (D.getD j 0)) w1) →
      wpOp P ops Q i (fun a2 w2 => ∃ v, a2 = a1.put (some (D.getD i 0)) v ∧ C w2 ∧ Below w1.heap.size w1 w2 ∧ T i v w2) a1 w1)
    (he : ∀ a1 w1, a1 = D.foldl (fun b d => b.put (some d) (slot a1 d)) a → C w1 → (∀ j, j < ops.size → T j (slot a1 (D.getD j 0)) w1) → Q .normal a1 w1) : (Code.region id ops true).wp P Q a w :=
  wp_region_spcS D C T (fun w w' => Below w.heap.size w w') hm hD hnd hds hB h0 hst hs he
/-- an operation that yields a value at once -/
theorem spc_val {P : Program} {ops : Array Oper} {Q : Exit → Act → World → Prop} {C : World → Prop} {T : Nat → Value → World → Prop} {i d : Nat} {a1 : Act} {w1 w2 : World} {op : Op} {tp : TypeId} {pos : String} {af : Array Edge} {g : Option (Nat × Bool)} {v : Value}
    (hi : ops[i]? = some ⟨some d, op, tp, pos, af, g⟩) (hg : Region.wanted (⟨some d, op, tp, pos, af, g⟩ : Oper) (yielded ops a1.tmps) = true)
    (hr : (execOp a1.eval (⟨some d, op, tp, pos, af, g⟩ : Oper)).run P w1 = .ok (.value v) w2) (hC : C w2) (hb : Below w1.heap.size w1 w2) (hT : T i v w2) :
    wpOp P ops Q i (fun a2 w2 => ∃ v, a2 = a1.put (some d) v ∧ C w2 ∧ Below w1.heap.size w1 w2 ∧ T i v w2) a1 w1 := by
  unfold wpOp
  rw [hi]
  simp only
  rw [if_pos hg]
  refine .inl ?_
  unfold Oper.wp
  rw [hr]
  exact ⟨v, rfl, hC, hb, hT⟩
/-- an operation that calls -/
theorem spc_call {P : Program} {ops : Array Oper} {Q : Exit → Act → World → Prop} {C : World → Prop} {T : Nat → Value → World → Prop} {i d : Nat} {a1 : Act} {w1 : World} {f : FuncId} {args : Array Operand} {ts : Array TypeId} {tp : TypeId} {pos : String} {af : Array Edge} {g : Option (Nat × Bool)} {vs : Array Value}
    (hi : ops[i]? = some ⟨some d, .call ⟨.value (.func f), args, ts⟩, tp, pos, af, g⟩) (hg : Region.wanted (⟨some d, .call ⟨.value (.func f), args, ts⟩, tp, pos, af, g⟩ : Oper) (yielded ops a1.tmps) = true)
    (hent : Enters P f) (hargs : args.map a1.eval = vs) (hc : Calls P f vs w1 fun e w2 => ∃ v, e = .returned v ∧ C w2 ∧ Below w1.heap.size w1 w2 ∧ T i v w2) :
    wpOp P ops Q i (fun a2 w2 => ∃ v, a2 = a1.put (some d) v ∧ C w2 ∧ Below w1.heap.size w1 w2 ∧ T i v w2) a1 w1 := by
  unfold wpOp
  rw [hi]
  simp only
  rw [if_pos hg]
  refine .inl ?_
  unfold Oper.wp
  have : (execOp a1.eval (⟨some d, .call ⟨.value (.func f), args, ts⟩, tp, pos, af, g⟩ : Oper)).run P w1 = .ok (.enter f vs) w1 := by
    have h1 : a1.eval (.func f) = .func (.func f) #[] #[] := rfl
    unfold execOp
    simp only [resolve, Deferred.ofValue, hargs, h1, invoke, Sem.run_bind, Sem.run_pure, Result.andThen_ok]
    simp [hent vs w1]
  rw [this, Oper.upon_enter]
  refine hc.mono ?_
  rintro e w2 ⟨v, rfl, h⟩
  exact ⟨v, rfl, h⟩
/-- an operation that yields a value at once -/
theorem spcS_val {P : Program} {ops : Array Oper} {Q : Exit → Act → World → Prop} {C : World → Prop} {T : Nat → Value → World → Prop} {St : World → World → Prop} {i d : Nat} {a1 : Act} {w1 w2 : World} {op : Op} {tp : TypeId} {pos : String} {af : Array Edge} {g : Option (Nat × Bool)} {v : Value}
    (hi : ops[i]? = some ⟨some d, op, tp, pos, af, g⟩) (hg : Region.wanted (⟨some d, op, tp, pos, af, g⟩ : Oper) (yielded ops a1.tmps) = true)
    (hr : (execOp a1.eval (⟨some d, op, tp, pos, af, g⟩ : Oper)).run P w1 = .ok (.value v) w2) (hC : C w2) (hb : St w1 w2) (hT : T i v w2) :
    wpOp P ops Q i (fun a2 w2 => ∃ v, a2 = a1.put (some d) v ∧ C w2 ∧ St w1 w2 ∧ T i v w2) a1 w1 := by
  unfold wpOp
  rw [hi]
  simp only
  rw [if_pos hg]
  refine .inl ?_
  unfold Oper.wp
  rw [hr]
  exact ⟨v, rfl, hC, hb, hT⟩
/-- an operation that calls -/
theorem spcS_call {P : Program} {ops : Array Oper} {Q : Exit → Act → World → Prop} {C : World → Prop} {T : Nat → Value → World → Prop} {St : World → World → Prop} {i d : Nat} {a1 : Act} {w1 : World} {f : FuncId} {args : Array Operand} {ts : Array TypeId} {tp : TypeId} {pos : String} {af : Array Edge} {g : Option (Nat × Bool)} {vs : Array Value}
    (hi : ops[i]? = some ⟨some d, .call ⟨.value (.func f), args, ts⟩, tp, pos, af, g⟩) (hg : Region.wanted (⟨some d, .call ⟨.value (.func f), args, ts⟩, tp, pos, af, g⟩ : Oper) (yielded ops a1.tmps) = true)
    (hent : Enters P f) (hargs : args.map a1.eval = vs) (hc : Calls P f vs w1 fun e w2 => ∃ v, e = .returned v ∧ C w2 ∧ St w1 w2 ∧ T i v w2) :
    wpOp P ops Q i (fun a2 w2 => ∃ v, a2 = a1.put (some d) v ∧ C w2 ∧ St w1 w2 ∧ T i v w2) a1 w1 := by
  unfold wpOp
  rw [hi]
  simp only
  rw [if_pos hg]
  refine .inl ?_
  unfold Oper.wp
  have : (execOp a1.eval (⟨some d, .call ⟨.value (.func f), args, ts⟩, tp, pos, af, g⟩ : Oper)).run P w1 = .ok (.enter f vs) w1 := by
    have h1 : a1.eval (.func f) = .func (.func f) #[] #[] := rfl
    unfold execOp
    simp only [resolve, Deferred.ofValue, hargs, h1, invoke, Sem.run_bind, Sem.run_pure, Result.andThen_ok]
    simp [hent vs w1]
  rw [this, Oper.upon_enter]
  refine hc.mono ?_
  rintro e w2 ⟨v, rfl, h⟩
  exact ⟨v, rfl, h⟩
theorem wanted_none {o : Oper} {y : Nat → Option Bool} (h : o.guard = none) : Region.wanted o y = true := by simp [Region.wanted, h]
theorem wanted_of {ops : Array Oper} {o : Oper} {a : Act} {g d : Nat} {b : Bool} (ho : o.guard = some (g, b)) (hog : (ops[g]?).bind (·.dst) = some d) (hv : slot a d = .bool b) : Region.wanted o (yielded ops a.tmps) = true := by
  have h1 : a.tmps[d]? = some (.bool b) := by
    unfold slot at hv
    rcases Nat.lt_or_ge d a.tmps.size with h | h
    · simpa [Array.getD_eq_getD_getElem?, h] using hv
    · simp [Array.getD_eq_getD_getElem?, Array.getElem?_eq_none h, undef] at hv
  have h2 : yielded ops a.tmps g = some b := by simp [yielded, hog, h1]
  simp [Region.wanted, ho, h2]
section
variable {P : Program} {ρ : Operand → Value} {d : Option Tmp} {x y c m n : Operand} {t t1 t2 : TypeId} {pos : String} {af : Array Edge} {g : Option (Nat × Bool)} {w : World}
theorem run_pickT (hc : ρ c = .bool true) : (execOp ρ (⟨d, .pick c x y, t, pos, af, g⟩ : Oper)).run P w = .ok (.value (ρ x)) w := by
  simp [execOp, hc, asBool]
theorem run_pickF (hc : ρ c = .bool false) : (execOp ρ (⟨d, .pick c x y, t, pos, af, g⟩ : Oper)).run P w = .ok (.value (ρ y)) w := by
  simp [execOp, hc, asBool]
theorem run_lenSl {a : Option Addr} {k cap : Nat} {e : TypeId} (hu : P.underlying t1 = some (.slice e)) (hx : ρ x = .slice a k cap) : (execOp ρ (⟨d, .call ⟨.builtin .len, #[x], #[t1]⟩, t, pos, af, g⟩ : Oper)).run P w = .ok (.value (.int .i64 (k : Int))) w := by
  simp [execOp, resolve, invoke, builtin, Builtin.len_, hx, run_underlying hu]
  rfl
theorem run_slB {lo hi mx : Option Operand} {v : Value} (h : (Instr.sliceAt t1 (ρ x) (lo.map ρ) (hi.map ρ) (mx.map ρ)).run P w = .ok v w) : (execOp ρ (⟨d, .slice t1 x lo hi mx, t, pos, af, g⟩ : Oper)).run P w = .ok (.value v) w := by
  simp [execOp, h]
theorem run_mkB {v : Value} {w' : World} (h : (Instr.makeSlice t1 (ρ m) (ρ n)).run P w = .ok v w') : (execOp ρ (⟨d, .makeSlice t1 m n, t, pos, af, g⟩ : Oper)).run P w = .ok (.value v) w' := by
  simp [execOp, h]
end
end Go.Proofs.YtplafpokgpolkaaGreatDoor
