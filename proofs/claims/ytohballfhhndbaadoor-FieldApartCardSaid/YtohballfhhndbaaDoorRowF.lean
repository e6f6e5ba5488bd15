/- A ROW OF WHICH NO CELL IS FROZEN, though it may bear a mark; []byte(s) as such a row; append(v, make([]byte, k)...) upon it. -/
import Derived.Test.YtohballfhhndbaaDoorConv
import Derived.Test.YtohballfhhndbaaDoorGen2
import Derived.Laws.IdiomCopy
import Derived.Lib.AppendZerosOnto
namespace Go.Proofs.YtohballfhhndbaaDoor
open Go.RowKit
/-- block b is a row, no cell of which is frozen -/
def RowF (w : World) (b : Nat) (e : TypeId) (c : Array Value) : Prop := ∃ fz : Nat × Nat, w.heap[b]? = some (.cells c e fz) ∧ c.size ≤ fz.1
theorem heap_alloc_newF (w : World) (o : Obj) : (w.alloc o).heap[w.heap.size]? = some o := heap_alloc_new w o
theorem RowF.cell {w : World} {b : Nat} {e : TypeId} {c : Array Value} (h : RowF w b e c) {i : Nat} {v : Value} (hv : c[i]? = some v) : w.cell? ⟨b, i, none⟩ = some v := by
  obtain ⟨fz, h, _⟩ := h
  simp [World.cell?, h, hv]
theorem RowF.frozen {w : World} {b : Nat} {e : TypeId} {c : Array Value} (h : RowF w b e c) {i : Nat} (hi : i < c.size) : w.frozen? ⟨b, i, none⟩ = false := by
  obtain ⟨fz, h, hz⟩ := h
  obtain ⟨lo, hi'⟩ := fz
  simp only [World.frozen?, h]
  simp only at hz
  simp; intro h; omega
theorem RowF.lt {w : World} {b : Nat} {e : TypeId} {c : Array Value} (h : RowF w b e c) : b < w.heap.size := by
  obtain ⟨fz, h, _⟩ := h
  exact (Array.getElem?_eq_some_iff.1 h).1
theorem RowF.set {w : World} {b : Nat} {e : TypeId} {c : Array Value} (h : RowF w b e c) (i : Nat) (v : Value) : RowF (w.setCell ⟨b, i, none⟩ v) b e (c.setIfInBounds i v) := by
  obtain ⟨fz, h, hz⟩ := h
  refine ⟨fz, ?_, by simpa using hz⟩
  rw [setCell_eq_setRow w b i c e fz v h]
  exact setRow_heap w b c _ e _ h
theorem RowF.chg {M : Nat → Prop} {w w' : World} {b B : Nat} {e : TypeId} {c : Array Value} (h : RowF w b e c) (hb : Chg M B w w') (hlt : b < B) (hm : ¬ M b) : RowF w' b e c := by
  unfold RowF; rw [hb.block b hlt hm]; exact h
/-- a text turned to bytes: a row of its own, hidden -/
theorem convF (l : List UInt8) (hl : l.length ≤ 100000000) : ∃ cf : World → Nat, ∃ rf : World → Array Value, ∃ mf : World → Nat × Nat,
    (∀ w, (convert 9 22 (.string ⟨l.toArray⟩)).run Tryd.prog w = .ok (.slice (some ⟨w.heap.size, 0, none⟩) l.length (cf w)) (w.drew.alloc (.cells (rf w) 5 (mf w)))) ∧
    (∀ w, (rf w).size ≤ (mf w).1 ∧ l.length ≤ cf w ∧ cf w ≤ maxLen ∧ ∃ pad, rf w = (bcells l ++ pad).toArray ∧ l.length + pad.length = cf w) := by
  have hsz : (⟨l.toArray⟩ : ByteArray).size = l.length := by simp [ByteArray.size]
  refine ⟨fun w => grownCap w l.length 0 5, fun w => bytesRow ⟨l.toArray⟩ (grownCap w l.length 0 5), fun w => ((bytesRow ⟨l.toArray⟩ (grownCap w l.length 0 5)).size, (bytesRow ⟨l.toArray⟩ (grownCap w l.length 0 5)).size + 1), fun w => ?_, fun w => ?_⟩
  · have := run_bytes_of_string (P := Tryd.prog) w 9 22 5 ⟨l.toArray⟩ Tryd.underlying9 Tryd.underlying22 Tryd.underlying5
    rw [hsz] at this
    exact this
  · have hg := grownCap_ge w l.length 0 5
    refine ⟨Nat.le_refl _, hg, grownCap_le_maxLen _ _ _ _ (by unfold maxLen; omega), (Array.replicate (grownCap w l.length 0 5 - l.length) (.int .u8 0)).toList, ?_, by simp; omega⟩
    apply Array.ext'
    simp [bytesRow, bcells, hsz]
/-- a row read -/
theorem RowF.reads {w : World} {g : Nat} {e : TypeId} {l : List UInt8} {pad : List Value} (h : RowF w g e (bcells l ++ pad).toArray) {N : Nat → Prop} (hN : N g) (cap : Nat) (h1 : l.length ≤ cap) (h2 : cap ≤ maxLen) : Reads w N (.slice (some ⟨g, 0, none⟩) l.length cap) l := by
  refine ⟨⟨_, cap, rfl, h1, h2, .inr ⟨_, _, rfl, hN⟩⟩, fun b off n c he j hj => ?_⟩
  injection he with e1 _ _; injection e1 with e1; injection e1 with e1 e2 _; subst e1 e2
  rw [Nat.zero_add]
  exact h.cell (by rw [List.getElem?_toArray, List.getElem?_append_left (by rw [bcells_length]; exact hj), bcells_get _ _ hj])
theorem chg_setCells (B b : Nat) (hb : B ≤ b) : ∀ (vs : List Value) (o : Nat) (w : World), Chg NoM B w (w.setCells b o vs)
  | [], _, w => .refl _ _ _
  | v :: r, o, w => (Chg.setCell (M := NoM) (.refl _ _ _) (.inl hb) v).trans (chg_setCells B b hb r (o + 1) _)
theorem zeroCells_one (z : Value) (k : Nat) : Builtin.zeroCells #[z] k = Array.replicate k z := by
  unfold Builtin.zeroCells
  apply Array.ext
  · simp
  · intro i h1 h2
    simp [Nat.mod_one]
theorem size_setCells (b : Nat) : ∀ (vs : List Value) (o : Nat) (w : World), (w.setCells b o vs).heap.size = w.heap.size
  | [], _, w => rfl
  | v :: r, o, w => by rw [World.setCells, size_setCells b r]; simp [World.setCell]
theorem run_appZ {P : Program} {w : World} {t tn ty e : TypeId} {kq kn : IntKind} {i : TypeInfo} (ht : P.underlying t = some (.slice e)) (htn : P.underlying tn = some (.int kn)) (hi : P.info? e = some i) (hz : i.zero = some (.int .u8 0)) (hs : i.size = 1) (hby : i.bytes = 1)
    {g cap k : Nat} {l : List UInt8} {pad : List Value} (hrow : RowF w g e (bcells l ++ pad).toArray) (hc : l.length + pad.length = cap) (hm : l.length + k ≤ 1000000) (hcm : cap ≤ maxLen) :
    ∃ v' w', (Builtin.append_ #[t, tn] ty #[.slice (some ⟨g, 0, none⟩) l.length cap, .int kq k]).run P w = .ok v' w' ∧ Reads w' (fun b => g ≤ b ∧ b < w'.heap.size) v' (l ++ List.replicate k 0) ∧ Below g w w' := by
  have hsize : (bcells l ++ pad).toArray.size = cap := by simp [bcells_length]; omega
  have hw : IntKind.i64.wrap (k : Int) = k := by rw [IntKind.wrap_i64]; omega
  have hneg : ¬ ((k : Int) < 0) := by omega
  have hlt := hrow.lt
  by_cases hfit : l.length + k ≤ cap
  · have hst := run_storeCells_cells (P := P) g l.length (List.replicate k (.int .u8 0)) 0 w
      (fun j hj => by
        have hj : j < k := by simpa using hj
        rw [hrow.cell (i := l.length + 0 + j) (Array.getElem?_eq_getElem (by omega))]; rfl)
      (fun j hj => by
        have hj : j < k := by simpa using hj
        exact hrow.frozen (by omega))
      (fun u hu => by rw [(List.mem_replicate.1 hu).2]; rfl)
    rw [Nat.add_zero] at hst
    have hch := chg_setCells g g (Nat.le_refl _) (List.replicate k (.int .u8 0)) l.length w
    have hsz := size_setCells g (List.replicate k (.int .u8 0)) l.length w
    refine ⟨.slice (some ⟨g, 0, none⟩) (l.length + k) cap, w.setCells g l.length (List.replicate k (.int .u8 0)), ?_, ?_, hch.below (fun _ _ h => h)⟩
    · have hadd : (⟨g, 0, none⟩ : Addr).add l.length = ⟨g, l.length, none⟩ := by rw [Addr.add_mid, Nat.zero_add]
      have h48 : ¬ (281474976710656 < (k : Int)) := by omega
      by_cases hk : k = 0
      · subst hk
        have hw0 : IntKind.i64.wrap 0 = 0 := by decide
        have hle : l.length ≤ cap := by omega
        simp [Builtin.append_, run_underlying ht, run_underlying htn, sizeOf, typeInfo, hi, hs, hby, asInt, asIntOf, hw0, hle, storeCells, World.setCells]
      · simp [Builtin.append_, run_underlying ht, run_underlying htn, sizeOf, typeInfo, zeroValue, hi, hz, hs, hby, asInt, asIntOf, hw, hneg, h48, hk, hfit, hadd, Value.cells, zeroCells_one, hst]
    · have hll : (l ++ List.replicate k (0 : UInt8)).length = l.length + k := by simp
      refine ⟨⟨_, cap, by rw [hll], by omega, hcm, .inr ⟨_, _, rfl, Nat.le_refl _, by omega⟩⟩, fun b off n c he j hj => ?_⟩
      injection he with e1 _ _; injection e1 with e1; injection e1 with e1 e2 _; subst e1 e2
      rw [Nat.zero_add]
      rw [hll] at hj
      by_cases hjl : j < l.length
      · rw [World.cell?_setCells_out _ _ _ _ _ (by simp; omega), List.getElem_append_left hjl]
        exact hrow.cell (by rw [List.getElem?_toArray, List.getElem?_append_left (by rw [bcells_length]; exact hjl), bcells_get _ _ hjl])
      · obtain ⟨m, rfl⟩ : ∃ m, j = l.length + m := ⟨j - l.length, by omega⟩
        have := World.cell?_setCells_in g (List.replicate k (Value.int .u8 0)) l.length w (fun i hi => by
          have hi : i < k := by simpa using hi
          rw [hrow.cell (i := l.length + i) (Array.getElem?_eq_getElem (by omega))]; rfl) m (by simp; omega)
        rw [this]
        simp
  · have hk : 0 < k := by omega
    have hold : (Builtin.firstCells i.size l.length (.slice (some ⟨g, 0, none⟩) l.length cap)).run P w.drew = .ok (bcells l).toArray w.drew := by
      rw [hs]
      have := run_loadCells_list (P := P) w.drew ⟨g, 0, none⟩ (bcells l) (fun j v hv => by
        rw [Addr.add_mid, Nat.zero_add]
        have hj : j < l.length := by
          have := (List.getElem?_eq_some_iff.1 hv).1
          rwa [bcells_length] at this
        show w.cell? _ = _
        exact hrow.cell (by rw [List.getElem?_toArray, List.getElem?_append_left (by rw [bcells_length]; exact hj), hv]))
      rw [bcells_length] at this
      simpa [Builtin.firstCells] using this
    have hgs := Lib.run_append_grow_zeros (P := P) w t tn ty e i (.int .u8 0) kq kn ht htn hi hz (some ⟨g, 0, none⟩) l.length cap (bcells l) hold k hk (by omega) (by omega) (by omega) (by rw [hby]; omega) (by
      rw [hby, Nat.mul_one]
      exact Nat.le_trans (nextslicecap_le (need := l.length + k) (old := cap) (by omega)) (by omega))
    have hge := grownCap_ge w (l.length + k) cap e
    have hle := grownCap_le_maxLen w (l.length + k) cap e (by unfold maxLen; omega)
    generalize grownCap w (l.length + k) cap e = nc at *
    refine ⟨_, _, hgs, ?_, ((Below.refl _ _).drew).alloc (by simp; omega) _⟩
    have hcell : (bcells l).toArray ++ Builtin.zeroCells (Value.int .u8 0).cells k ++ Builtin.zeroCells (Value.int .u8 0).cells (nc - (l.length + k)) = (bcells (l ++ List.replicate k 0) ++ List.replicate (nc - (l.length + k)) (Value.int .u8 0)).toArray := by
      simp only [Value.cells, zeroCells_one]
      apply Array.ext'
      simp [bcells]
    rw [hcell]
    have hll : (l ++ List.replicate k (0 : UInt8)).length = l.length + k := by simp
    refine ⟨⟨_, nc, by rw [hll], by omega, hle, .inr ⟨_, _, rfl, by omega, by simp⟩⟩, fun b off n c he j hj => ?_⟩
    injection he with e1 _ _; injection e1 with e1; injection e1 with e1 e2 _; subst e1 e2
    rw [Nat.zero_add]
    have hr : Row (w.drew.alloc (.cells (bcells (l ++ List.replicate k 0) ++ List.replicate (nc - (l.length + k)) (Value.int .u8 0)).toArray e)) w.heap.size e _ := Row.new w.drew e _
    exact hr.cell (by rw [List.getElem?_toArray, List.getElem?_append_left (by rw [bcells_length]; exact hj), bcells_get _ _ hj])
/-- ARM: append(v, make([]byte, k)...) -/
theorem arm_appZ {P : Program} {ops : Array Oper} {rest : List Oper} {a : Act} {w : World} {Q : Exit → Act → World → Prop} {t tn tp e : TypeId} {kq kn : IntKind} {i : TypeInfo} {dst : Option Tmp} {s x : Operand} {pos : String} {after : Array Edge} (ht : P.underlying t = some (.slice e)) (htn : P.underlying tn = some (.int kn)) (hi : P.info? e = some i) (hz : i.zero = some (.int .u8 0)) (hs : i.size = 1) (hby : i.bytes = 1)
    {g cap k : Nat} {l : List UInt8} {pad : List Value} (hrow : RowF w g e (bcells l ++ pad).toArray) (hc : l.length + pad.length = cap) (hm : l.length + k ≤ 1000000) (hcm : cap ≤ maxLen)
    (hv : a.eval s = .slice (some ⟨g, 0, none⟩) l.length cap) (hx : a.eval x = .int kq k)
    (h : ∀ v' w', Reads w' (fun b => g ≤ b ∧ b < w'.heap.size) v' (l ++ List.replicate k 0) → Below g w w' → wpList P ops Q rest (a.put dst v') w') :
    wpList P ops Q (⟨dst, .call ⟨.builtin .append, #[s, x], #[t, tn]⟩, tp, pos, after, none⟩ :: rest) a w := by
  obtain ⟨v', w', hrun, h1, h2⟩ := run_appZ (ty := tp) (kq := kq) ht htn hi hz hs hby hrow hc hm hcm
  refine wpList_plain rfl fun _ hK => ?_
  unfold Oper.wp execOp
  simp only [resolve, invoke, builtin, Sem.run_bind, Sem.run_pure, Result.andThen_ok, List.map_toArray, List.map_cons, List.map_nil, hv, hx, hrun]
  exact hK _ _ (h v' w' h1 h2)
end Go.Proofs.YtohballfhhndbaaDoor
