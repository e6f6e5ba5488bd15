/- Blocks: calls on none (nil); Octal, Wide, Number, Text at known values. -/
import Derived.Test.YtohballfhhndbaaDoorFieldBlocks
import Derived.Test.YtohballfhhndbaaDoorFldText
namespace Go.Proofs.YtohballfhhndbaaDoor
open Go.RowKit
theorem sum_nil (w : World) : Calls Tryd.prog 22 #[.pointer none] w fun e w' => e = .returned (.int .i64 0) ∧ w = w' := by
  go_enter Tryd.func22, Tryd.ntmps22
  go_wp2_with fail
  go_ret
  exact ⟨rfl, rfl⟩
theorem check_nil (w : World) : Calls Tryd.prog 21 #[.pointer none] w fun e w' => e = .returned (.int .i64 1) ∧ w = w' := by
  go_enter Tryd.func21, Tryd.ntmps21
  go_wp2_with fail
  go_ret
  exact ⟨rfl, rfl⟩
theorem zero_nil (w : World) : Calls Tryd.prog 26 #[.pointer none] w fun e w' => e = .returned (.bool false) ∧ w = w' := by
  go_enter Tryd.func26, Tryd.ntmps26
  go_wp2_with fail
  go_ret
  exact ⟨rfl, rfl⟩
/-- any result that is read, its block new -/
def rdA (lo hi : Nat) (v : Value) (l : List UInt8) : As := ⟨fun b => lo ≤ b ∧ b < hi, fun w => Reads w (fun b => lo ≤ b ∧ b < hi) v l, fun w w' h hr => ⟨hr.shape, fun b off n cap hv j hj => by
  have hN := (Reads.blk (hv ▸ hr)).1
  have := hr.cell b off n cap hv j hj
  unfold World.cell? at this ⊢
  rw [show w'.heap[(⟨b, off + j, none⟩ : Addr).block]? = w.heap[(⟨b, off + j, none⟩ : Addr).block]? from h b hN]
  exact this⟩⟩
theorem Hp.pushRd {w wr w' : World} {ls : List As} {v : Value} {l : List UInt8} (h : Hp NoM w wr ls) (hr : Reads w' (NewIn wr w') v l) (hb : Below wr.heap.size wr w') : Hp NoM w w' (ls ++ [rdA wr.heap.size w'.heap.size v l]) :=
  h.push _ (.of_below hb) hr (fun b hb => hb)
theorem Hp.rdAt {w wr : World} {ls : List As} (h : Hp NoM w wr ls) (i : Nat) {lo hi : Nat} {v : Value} {l : List UInt8} (hi : ls[i]? = some (rdA lo hi v l)) : Reads wr (· < wr.heap.size) v l :=
  (show Reads wr (fun b => lo ≤ b ∧ b < _) v l from h.get i hi).mono (fun b hb => (h.new i hi hb).2)
theorem oct_k (n many : Int) (l : List UInt8) (er : Int) (hs : octS n many = (l, er)) (h0 : -9223372036854775808 ≤ n) (h1 : n ≤ 9223372036854775807) (B : Nat) (w : World) (hB : B ≤ w.heap.size) (hT : Tz B w) :
    Calls Tryd.prog 10 #[.int .i64 n, .int .i64 many] w fun e w' => ∃ a c, e = .returned (.tuple #[.slice a l.length c, .int .i64 er]) ∧ Reads w' (NewIn w w') (.slice a l.length c) l ∧ Below w.heap.size w w' := by
  refine (octal_any n many h0 h1 B w hB hT).mono ?_
  rw [hs]
  rintro e w' ⟨v, rfl, hr, hb⟩
  obtain ⟨a, c, rfl, -⟩ := hr.shape
  exact ⟨a, c, rfl, hr, hb⟩
theorem wide_k (n many : Int) (l : List UInt8) (er : Int) (hs : wideS n many = (l, er)) (h0 : -9223372036854775808 ≤ n) (h1 : n ≤ 9223372036854775807) (w : World) :
    Calls Tryd.prog 12 #[.int .i64 n, .int .i64 many] w fun e w' => ∃ a c, e = .returned (.tuple #[.slice a l.length c, .int .i64 er]) ∧ Reads w' (NewIn w w') (.slice a l.length c) l ∧ Below w.heap.size w w' := by
  refine (wide_any n many h0 h1 w).mono ?_
  rw [hs]
  rintro e w' ⟨v, rfl, hr, hb⟩
  obtain ⟨a, c, rfl, -⟩ := hr.shape
  exact ⟨a, c, rfl, hr, hb⟩
theorem text_k (s : List UInt8) (many : Int) (l : List UInt8) (er : Int) (hs : textS s many = (l, er)) (hl : s.length ≤ 600) (w : World) :
    Calls Tryd.prog 27 #[.string ⟨s.toArray⟩, .int .i64 many] w fun e w' => ∃ a c, e = .returned (.tuple #[.slice a l.length c, .int .i64 er]) ∧ Reads w' (NewIn w w') (.slice a l.length c) l ∧ Below w.heap.size w w' := by
  refine (text_any s many hl w).mono ?_
  rw [hs]
  rintro e w' ⟨v, rfl, hr, hb⟩
  obtain ⟨a, c, rfl, -⟩ := hr.shape
  exact ⟨a, c, rfl, hr, hb⟩
/-- append(v, make([]byte, k)...), v full -/
theorem run_appGZ {P : Program} {w : World} {t tn ty e : TypeId} {kq kn : IntKind} {i : TypeInfo} (ht : P.underlying t = some (.slice e)) (htn : P.underlying tn = some (.int kn)) (hi : P.info? e = some i) (hz : i.zero = some (.int .u8 0)) (hs : i.size = 1) (hby : i.bytes = 1)
    {g k : Nat} {l : List UInt8} (hrow : Row w g e (bcells l).toArray) (hk : 0 < k) (hm : l.length + k ≤ 1000000) :
    ∃ v' w', (Builtin.append_ #[t, tn] ty #[.slice (some ⟨g, 0, none⟩) l.length l.length, .int kq k]).run P w = .ok v' w' ∧ Reads w' (NewIn w w') v' (l ++ List.replicate k 0) ∧ Below w.heap.size w w' := by
  have hold : (Builtin.firstCells i.size l.length (.slice (some ⟨g, 0, none⟩) l.length l.length)).run P w.drew = .ok (bcells l).toArray w.drew := by
    rw [hs]
    have := run_loadCells_list (P := P) w.drew ⟨g, 0, none⟩ (bcells l) (fun j v hv => by
      rw [Addr.add_mid, Nat.zero_add]
      show w.cell? _ = _
      exact hrow.cell (by rw [List.getElem?_toArray]; exact hv))
    rw [bcells_length] at this
    simpa [Builtin.firstCells] using this
  have hgs := Lib.run_append_grow_zeros (P := P) w t tn ty e i (.int .u8 0) kq kn ht htn hi hz (some ⟨g, 0, none⟩) l.length l.length (bcells l) hold k hk (by omega) (by omega) (by omega) (by rw [hby]; omega) (by
    rw [hby, Nat.mul_one]
    exact Nat.le_trans (nextslicecap_le (need := l.length + k) (old := l.length) (by omega)) (by omega))
  have hge := grownCap_ge w (l.length + k) l.length e
  have hle := grownCap_le_maxLen w (l.length + k) l.length e (by unfold maxLen; omega)
  generalize grownCap w (l.length + k) l.length e = nc at *
  refine ⟨_, _, hgs, ?_, ((Below.refl _ _).drew).alloc (by simp) _⟩
  have hcell : (bcells l).toArray ++ Builtin.zeroCells (Value.int .u8 0).cells k ++ Builtin.zeroCells (Value.int .u8 0).cells (nc - (l.length + k)) = (bcells (l ++ List.replicate k 0) ++ List.replicate (nc - (l.length + k)) (Value.int .u8 0)).toArray := by
    simp only [Value.cells, zeroCells_one]
    apply Array.ext'
    simp [bcells]
  rw [hcell]
  have hll : (l ++ List.replicate k (0 : UInt8)).length = l.length + k := by simp
  refine ⟨⟨_, nc, by rw [hll], by omega, hle, .inr ⟨_, _, rfl, by unfold NewIn; simp⟩⟩, fun b off n c he j hj => ?_⟩
  injection he with e1 _ _; injection e1 with e1; injection e1 with e1 e2 _; subst e1 e2
  rw [Nat.zero_add]
  have hr : Row (w.drew.alloc (.cells (bcells (l ++ List.replicate k 0) ++ List.replicate (nc - (l.length + k)) (Value.int .u8 0)).toArray e)) w.heap.size e _ := Row.new w.drew e _
  exact hr.cell (by rw [List.getElem?_toArray, List.getElem?_append_left (by rw [bcells_length]; exact hj), bcells_get _ _ hj])
/-- ARM -/
theorem arm_appGZ {P : Program} {ops : Array Oper} {rest : List Oper} {a : Act} {w : World} {Q : Exit → Act → World → Prop} {t tn tp e : TypeId} {kq kn : IntKind} {i : TypeInfo} {dst : Option Tmp} {s x : Operand} {pos : String} {after : Array Edge} (ht : P.underlying t = some (.slice e)) (htn : P.underlying tn = some (.int kn)) (hi : P.info? e = some i) (hz : i.zero = some (.int .u8 0)) (hs : i.size = 1) (hby : i.bytes = 1)
    {g k : Nat} {l : List UInt8} (hrow : Row w g e (bcells l).toArray) (hk : 0 < k) (hm : l.length + k ≤ 1000000)
    (hv : a.eval s = .slice (some ⟨g, 0, none⟩) l.length l.length) (hx : a.eval x = .int kq k)
    (h : ∀ v' w', Reads w' (NewIn w w') v' (l ++ List.replicate k 0) → Below w.heap.size w w' → wpList P ops Q rest (a.put dst v') w') :
    wpList P ops Q (⟨dst, .call ⟨.builtin .append, #[s, x], #[t, tn]⟩, tp, pos, after, none⟩ :: rest) a w := by
  obtain ⟨v', w', hrun, h1, h2⟩ := run_appGZ (ty := tp) (kq := kq) ht htn hi hz hs hby hrow hk hm
  refine wpList_plain rfl fun _ hK => ?_
  unfold Oper.wp execOp
  simp only [resolve, invoke, builtin, Sem.run_bind, Sem.run_pure, Result.andThen_ok, List.map_toArray, List.map_cons, List.map_nil, hv, hx, hrun]
  exact hK _ _ (h v' w' h1 h2)
theorem num_k (v : Value) (l : List UInt8) (n er : Int) (hs : numS l = (n, er)) (w : World) (hr : Reads w (· < w.heap.size) v l) (hl : l.length ≤ 1000) :
    Calls Tryd.prog 14 #[v] w fun e w' => e = .returned (.tuple #[.int .i64 n, .int .i64 er]) ∧ w = w' := by
  have := num_any v l w hr (by omega)
  rw [hs] at this
  exact this
set_option maxHeartbeats 4000000 in
set_option maxRecDepth 100000 in
theorem seal_nil (B : Nat) (w : World) (hF : Flds B w) (hT : Tz B w) (hB : B ≤ w.heap.size) :
    Calls Tryd.prog 20 #[.pointer none] w fun e' w' => e' = .returned (.tuple #[]) ∧ Below w.heap.size w w' := by
  have HF := Keep.keep hF; have HT := Keep.keep hT; have HB := Keep.keep hB
  clear hF hT hB
  go_enter Tryd.func20, Tryd.ntmps20
  go_wp2_with fail
  refine (sum_nil _).mono ?_
  rintro e' w1 ⟨rfl, rfl⟩
  go_wp2_with fail
  refine (octal_own 0 6 (by decide) (by decide) (by decide) (by decide) B _ HB.out HT.out).mono ?_
  rintro e' w2 ⟨g, cap, pad, rfl, hrow, hc, hcm, hg, hb2⟩
  have HROW := Keep.keep hrow; have HCM := Keep.keep hcm; have HG := Keep.keep hg
  have HB2 := Keep.keep hb2
  have HOL : Keep ((octK 6 0 ++ [0]).length = 7) := ⟨by simp [octK_length]⟩
  have HC : Keep ((octK 6 0 ++ [0]).length + pad.length = cap) := ⟨by rw [HOL.out]; exact hc⟩
  clear hrow hc hcm hg hb2
  go_wp2_with (with_reducible refine arm_stop ?_)
  refine Stopped.out ?_
  obtain ⟨ti, i1, i2, i3, i4⟩ := (SlTy.mk' (P := Tryd.prog) (t := 22) (e := 5) (z := .int .u8 0) (bytes := 1) Tryd.underlying22 (by kernel_rfl) rfl).i
  have hr1 : Row (w2.alloc (.cells #[.int .u8 (((32 : UInt8).toNat : Nat) : Int)] 5)) w2.heap.size 5 #[.int .u8 (((32 : UInt8).toNat : Nat) : Int)] := Row.new _ _ _
  have hrf : RowF (w2.alloc (.cells #[.int .u8 (((32 : UInt8).toNat : Nat) : Int)] 5)) g 5 (bcells (octK 6 0 ++ [0]) ++ pad).toArray := HROW.out.chg (M := fun _ => False) (.of_below ((Below.refl w2.heap.size w2).alloc (Nat.le_refl _) _)) HROW.out.lt (fun h => h)
  refine arm_appF (l := octK 6 0 ++ [0]) (m := [32]) (pad := pad) Tryd.underlying22 i1 i2 i3 i4 hrf HC.out (src_one Tryd.underlying22 i3 hr1 rfl) (by rw [HOL.out]; decide) HCM.out (by rw [HOL.out]; rfl) rfl ?_
  intro v' w3 hr3 hb3
  have hg := HG.out
  have HB3 : Keep (Below w.heap.size w w3) := ⟨(HB2.out.trans (((Below.refl w2.heap.size w2).alloc (Nat.le_refl _) _).mono HB2.out.size)).trans (hb3.mono (by omega))⟩
  obtain ⟨a9, c9, hv9, -⟩ := hr3.shape
  rw [List.length_append, HOL.out] at hv9
  have hv9 : v' = .slice a9 8 c9 := hv9
  subst hv9
  clear hr3 hb3 hr1 hrf
  have HSET := Keep.keep (set_none (.pointer none) (.slice a9 8 c9) [99, 104, 107, 115, 117, 109] w3 ⟨part_nil [99, 104, 107, 115, 117, 109] (by decide) B w3 (HF.out.on (HB3.out.mono HB.out))⟩)
  simp only [Act.put, List.setIfInBounds_toArray, List.set_cons_succ, List.set_cons_zero]
  go_wp2_with fail
  refine HSET.out.mono ?_
  rintro e' w4 ⟨rfl, hb4⟩
  have HB4 := Keep.keep (HB3.out.trans (hb4.mono HB3.out.size))
  clear hb4
  go_wp2_with fail
  go_end0
  exact ⟨rfl, HB4.out⟩
end Go.Proofs.YtohballfhhndbaaDoor
