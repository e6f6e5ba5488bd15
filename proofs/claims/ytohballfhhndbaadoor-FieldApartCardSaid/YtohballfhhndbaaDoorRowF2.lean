/- append(v, x...) upon a row of which no cell is frozen, though it may bear a mark. -/
import Derived.Test.YtohballfhhndbaaDoorRowF
import Derived.Deep.AppendSrc
namespace Go.Proofs.YtohballfhhndbaaDoor
open Go.RowKit
theorem run_appF {P : Program} {w : World} {t tx ty e : TypeId} {i : TypeInfo} (ht : P.underlying t = some (.slice e)) (hi : P.info? e = some i) (hz : i.zero = some (.int .u8 0)) (hs : i.size = 1) (hby : i.bytes = 1)
    {g cap : Nat} {l m : List UInt8} {pad : List Value} {x : Value} (hrow : RowF w g e (bcells l ++ pad).toArray) (hc : l.length + pad.length = cap) (hsrc : Src P i.size tx x m.length (bcells m) w) (hm : l.length + m.length ≤ 1000000) (hcm : cap ≤ maxLen) :
    ∃ v' w', (Builtin.append_ #[t, tx] ty #[.slice (some ⟨g, 0, none⟩) l.length cap, x]).run P w = .ok v' w' ∧ Reads w' (fun b => g ≤ b ∧ b < w'.heap.size) v' (l ++ m) ∧ Below g w w' := by
  have hsize : (bcells l ++ pad).toArray.size = cap := by simp [bcells_length]; omega
  have hlt := hrow.lt
  have hll : (l ++ m).length = l.length + m.length := by simp
  by_cases hfit : l.length + m.length ≤ cap
  · have hrun := run_append_room_src (P := P) w t tx ty e i ht hi g 0 l.length cap x m.length (bcells m) hsrc hfit
      (fun j hj => by
        rw [bcells_length] at hj
        rw [hs, Nat.mul_one, Nat.zero_add, hrow.cell (i := l.length + j) (Array.getElem?_eq_getElem (by omega))]; rfl)
      (fun j hj => by
        rw [bcells_length] at hj
        rw [hs, Nat.mul_one, Nat.zero_add]; exact hrow.frozen (by omega))
    rw [hs, Nat.mul_one, Nat.zero_add] at hrun
    have hch := chg_setCells g g (Nat.le_refl _) (bcells m) l.length w
    have hsz := size_setCells g (bcells m) l.length w
    refine ⟨_, _, hrun, ?_, hch.below (fun _ _ h => h)⟩
    refine ⟨⟨_, cap, by rw [hll], by omega, hcm, .inr ⟨_, _, rfl, Nat.le_refl _, by omega⟩⟩, fun b off n c he j hj => ?_⟩
    injection he with e1 _ _; injection e1 with e1; injection e1 with e1 e2 _; subst e1 e2
    rw [Nat.zero_add]
    rw [hll] at hj
    by_cases hjl : j < l.length
    · rw [World.cell?_setCells_out _ _ _ _ _ (by simp; omega), List.getElem_append_left hjl]
      exact hrow.cell (by rw [List.getElem?_toArray, List.getElem?_append_left (by rw [bcells_length]; exact hjl), bcells_get _ _ hjl])
    · obtain ⟨q, rfl⟩ : ∃ q, j = l.length + q := ⟨j - l.length, by omega⟩
      have := World.cell?_setCells_in g (bcells m) l.length w (fun i hi => by
        rw [bcells_length] at hi
        rw [hrow.cell (i := l.length + i) (Array.getElem?_eq_getElem (by omega))]; rfl) q (by rw [bcells_length]; omega)
      rw [this]
      rw [List.getElem_append_right (by omega)]
      simp [bcells]
  · have hold : (Builtin.firstCells i.size l.length (.slice (some ⟨g, 0, none⟩) l.length cap)).run P w.drew = .ok (bcells l).toArray w.drew := by
      rw [hs]
      have := run_loadCells_list (P := P) w.drew ⟨g, 0, none⟩ (bcells l) (fun j v hv => by
        rw [Addr.add_mid, Nat.zero_add]
        have hj : j < l.length := by
          have := (List.getElem?_eq_some_iff.1 hv).1
          rwa [bcells_length] at this
        show w.cell? _ = _
        exact hrow.cell (by rw [List.getElem?_toArray, List.getElem?_append_left (by rw [bcells_length]; exact hj), hv]))
      rw [bcells_length] at this
      simpa [Builtin.firstCells] using this
    have hgs := run_append_grow_src (P := P) w t tx ty e i (.int .u8 0) ht hi hz (some ⟨g, 0, none⟩) l.length cap (bcells l) hold x m.length (bcells m) hsrc (by omega) (by omega) (by
      rw [hby, Nat.mul_one]
      exact Nat.le_trans (nextslicecap_le (need := l.length + m.length) (old := cap) (by omega)) (by omega))
    have hge := grownCap_ge w (l.length + m.length) cap e
    have hle := grownCap_le_maxLen w (l.length + m.length) cap e (by unfold maxLen; omega)
    generalize grownCap w (l.length + m.length) cap e = nc at *
    refine ⟨_, _, hgs, ?_, ((Below.refl _ _).drew).alloc (by simp; omega) _⟩
    have hcell : (bcells l ++ bcells m).toArray ++ Builtin.zeroCells (Value.int .u8 0).cells (nc - (l.length + m.length)) = (bcells (l ++ m) ++ List.replicate (nc - (l.length + m.length)) (Value.int .u8 0)).toArray := by
      simp only [Value.cells, zeroCells_one]
      apply Array.ext'
      simp [bcells]
    rw [hcell]
    refine ⟨⟨_, nc, by rw [hll], by omega, hle, .inr ⟨_, _, rfl, by omega, by simp⟩⟩, fun b off n c he j hj => ?_⟩
    injection he with e1 _ _; injection e1 with e1; injection e1 with e1 e2 _; subst e1 e2
    rw [Nat.zero_add]
    have hr : Row (w.drew.alloc (.cells (bcells (l ++ m) ++ List.replicate (nc - (l.length + m.length)) (Value.int .u8 0)).toArray e)) w.heap.size e _ := Row.new w.drew e _
    exact hr.cell (by rw [List.getElem?_toArray, List.getElem?_append_left (by rw [bcells_length]; exact hj), bcells_get _ _ hj])
/-- ARM: append(v, x...) -/
theorem arm_appF {P : Program} {ops : Array Oper} {rest : List Oper} {a : Act} {w : World} {Q : Exit → Act → World → Prop} {t tx tp e : TypeId} {i : TypeInfo} {dst : Option Tmp} {s x : Operand} {xv : Value} {pos : String} {after : Array Edge} (ht : P.underlying t = some (.slice e)) (hi : P.info? e = some i) (hz : i.zero = some (.int .u8 0)) (hs : i.size = 1) (hby : i.bytes = 1)
    {g cap : Nat} {l m : List UInt8} {pad : List Value} (hrow : RowF w g e (bcells l ++ pad).toArray) (hc : l.length + pad.length = cap) (hsrc : Src P i.size tx xv m.length (bcells m) w) (hm : l.length + m.length ≤ 1000000) (hcm : cap ≤ maxLen)
    (hv : a.eval s = .slice (some ⟨g, 0, none⟩) l.length cap) (hx : a.eval x = xv)
    (h : ∀ v' w', Reads w' (fun b => g ≤ b ∧ b < w'.heap.size) v' (l ++ m) → Below g w w' → wpList P ops Q rest (a.put dst v') w') :
    wpList P ops Q (⟨dst, .call ⟨.builtin .append, #[s, x], #[t, tx]⟩, tp, pos, after, none⟩ :: rest) a w := by
  obtain ⟨v', w', hrun, h1, h2⟩ := run_appF (ty := tp) ht hi hz hs hby hrow hc hsrc hm hcm
  refine wpList_plain rfl fun _ hK => ?_
  unfold Oper.wp execOp
  simp only [resolve, invoke, builtin, Sem.run_bind, Sem.run_pure, Result.andThen_ok, List.map_toArray, List.map_cons, List.map_nil, hv, hx, hrun]
  exact hK _ _ (h v' w' h1 h2)
/-- the one byte of a slice just built, as a source -/
theorem src_one {P : Program} {size : Nat} {tx e e' : TypeId} (hk : P.underlying tx = some (.slice e')) (hs : size = 1) {w : World} {c : UInt8} {b n cp : Nat} (hr : Row w b e #[.int .u8 (c.toNat : Int)]) (hn : n = 1) : Src P size tx (.slice (some ⟨b, 0, none⟩) n cp) [c].length (bcells [c]) w := by
  subst hs hn
  exact Src.ofSlice w hk ⟨b, 0, none⟩ 1 cp (bcells [c]) rfl (fun j u hj => by
    have hj0 : j = 0 := by have := (List.getElem?_eq_some_iff.1 hj).1; simp [bcells] at this; exact this
    subst hj0
    rw [Addr.add_mid]
    exact hr.cell (by simpa [bcells] using hj)) (bcells_one _)
end Go.Proofs.YtohballfhhndbaaDoor
