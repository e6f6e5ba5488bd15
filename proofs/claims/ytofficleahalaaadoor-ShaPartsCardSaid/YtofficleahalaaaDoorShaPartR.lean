/- ShaParts: the region in which a copy's sum is held against the parts' own. -/
import Derived.Test.YtofficleahalaaaDoorShaCopy
import Derived.Test.YtofficleahalaaaDoorShaWakes
import Derived.Deep.AppendSrc
namespace Go.Proofs.YtofficleahalaaaDoor
open Go.RowKit
/-- what was there has the cells that it had -/
def Kc (w w' : World) : Prop := w.heap.size ≤ w'.heap.size ∧ ∀ (b : Nat) (C : Array Value) (e : TypeId) (fr : Nat × Nat), w.heap[b]? = some (Obj.cells C e fr) → ∃ fr', w'.heap[b]? = some (Obj.cells C e fr')
theorem Kc.refl (w : World) : Kc w w := ⟨Nat.le_refl _, fun _ _ _ fr h => ⟨fr, h⟩⟩
theorem Kc.of_below {w w' : World} (h : Below w.heap.size w w') : Kc w w' := ⟨h.size, fun b C e fr hb => ⟨fr, by rw [h.block b (Array.getElem?_eq_some_iff.1 hb).1]; exact hb⟩⟩
theorem Kc.freeze (w : World) (b k : Nat) : Kc w (w.freeze ⟨b, k, none⟩ 1) := by
  refine ⟨by simp [World.freeze], fun j C e fr hj => ?_⟩
  unfold World.freeze
  rw [if_neg (by decide)]
  simp only [Array.getElem?_modify]
  by_cases hb : b = j
  · subst hb
    obtain ⟨lo, hi⟩ := fr
    simp [hj]
  · simp [hb, hj]
theorem Kc.reads {w w' : World} (h : Kc w w') {N : Nat → Prop} {v : Value} {l : List UInt8} (hr : Reads w N v l) : Reads w' N v l := by
  refine ⟨hr.shape, fun b off n cap hv j hj => ?_⟩
  have h1 := hr.cell b off n cap hv j hj
  unfold World.cell? at h1 ⊢
  cases hb : w.heap[b]? with
  | none => simp [hb] at h1
  | some o =>
    cases o with
    | cells C e fr =>
      obtain ⟨fr', h2⟩ := h.2 b C e fr hb
      simp only [h2]
      simpa [hb] using h1
    | _ => simp [hb] at h1
theorem run_conv_at {P : Program} {w : World} {t e : TypeId} {b n c : Nat} {C : Array Value} {fr : Nat × Nat} (ht : P.underlying t = some (.slice e)) (he : P.underlying e = some (.int .u8)) (hb : w.heap[b]? = some (.cells C e fr)) :
    (convert t t (.slice (some ⟨b, 0, none⟩) n c)).run P w = .ok (.slice (some ⟨b, 0, none⟩) n c) (w.freeze ⟨b, C.size, none⟩ 1) := by
  have hsh : w.shape? b = some (e, C.size) := by unfold World.shape?; rw [hb]
  simp [convert, run_underlying ht, run_underlying he, markStringish, hsh]
def asideL : List UInt8 := [97, 115, 105, 100, 101]
/-- a row that was made here -/
def Rw (W w : World) (b : Nat) (e : TypeId) (c : List Value) : Prop := W.heap.size ≤ b ∧ ∃ fr, w.heap[b]? = some (.cells c.toArray e fr)
theorem Rw.kc {W w w' : World} {b : Nat} {e : TypeId} {c : List Value} (h : Rw W w b e c) (hk : Kc w w') : Rw W w' b e c := by
  obtain ⟨h0, fr, h1⟩ := h
  obtain ⟨fr', h2⟩ := hk.2 _ _ _ _ h1
  exact ⟨h0, fr', h2⟩
def spT (W : World) (S2 i at_ : Nat) (fewv : Value) (bf : Nat) (vs : List Value) (dg : Array Value) : Nat → Value → World → Prop
  | 0, v, _ => v = .pointer (some ⟨S2, 0, none⟩)
  | 3, v, _ => v = .int .i64 (i : Int)
  | 4, v, _ => v = .int .u8 (at_ : Int)
  | 5, v, _ => v = .int .u8 ((at_ % 20 : Nat) : Int)
  | 6, v, _ => v = .int .i64 (i : Int)
  | 10, v, _ => v = .pointer (some ⟨S2, 0, none⟩)
  | 11, v, _ => v = .agg dg
  | 12, v, _ => v = fewv
  | 13, v, _ => v = .int .i64 (i : Int)
  | 14, v, _ => v = .int .i64 (i : Int)
  | 15, v, _ => v = .slice (some ⟨bf, 0, none⟩) i i
  | 16, v, w => ∃ b, v = .slice (some ⟨b, 0, none⟩) 5 5 ∧ Rw W w b 5 (bcells asideL)
  | 17, v, w => ∃ b, v = .slice (some ⟨b, 0, none⟩) 5 5 ∧ Rw W w b 5 (bcells asideL)
  | 18, v, w => ∃ b b', v = .slice (some ⟨b, 0, none⟩) 1 1 ∧ Rw W w b 22 [.slice (some ⟨b', 0, none⟩) 5 5] ∧ Rw W w b' 5 (bcells asideL)
  | 19, v, w => ∃ b b' cap pad, v = .slice (some ⟨b, 0, none⟩) (i + 1) cap ∧ cap ≤ maxLen ∧ i + 1 ≤ cap ∧ Rw W w b 22 (vs.take i ++ [.slice (some ⟨b', 0, none⟩) 5 5] ++ pad) ∧ Rw W w b' 5 (bcells asideL)
  | 20, v, _ => v = .agg dg
  | 21, v, _ => v = .bool false
  | 22, v, _ => v = .bool false
  | _, v, _ => v = .bool true
theorem spT_stays {W : World} {S2 i at_ bf : Nat} {fewv : Value} {vs : List Value} {dg : Array Value} (k : Nat) (v : Value) (w w' : World) (h : spT W S2 i at_ fewv bf vs dg k v w) (hb : Kc w w') : spT W S2 i at_ fewv bf vs dg k v w' := by
  unfold spT at h ⊢
  split at h <;> try exact h
  · obtain ⟨b, rfl, h1⟩ := h; exact ⟨b, rfl, h1.kc hb⟩
  · obtain ⟨b, rfl, h1⟩ := h; exact ⟨b, rfl, h1.kc hb⟩
  · obtain ⟨b, b', rfl, h1, h2⟩ := h; exact ⟨b, b', rfl, h1.kc hb, h2.kc hb⟩
  · obtain ⟨b, b', cap, pad, rfl, h1, h2, h3, h4⟩ := h; exact ⟨b, b', cap, pad, rfl, h1, h2, h3.kc hb, h4.kc hb⟩
set_option maxRecDepth 100000 in
theorem build5 (w : World) : (Instr.buildSlice 22 5 #[(0, .int .u8 97), (1, .int .u8 115), (2, .int .u8 105), (3, .int .u8 100), (4, .int .u8 101)]).run Tryd.prog w = .ok (.slice (some ⟨w.heap.size, 0, none⟩) 5 5) (w.alloc (Obj.cells (bcells asideL).toArray 5)) := by
  kernel_rfl
theorem run_build5 {a : Act} {d : Option Tmp} {tp : TypeId} {pos : String} {af : Array Edge} {g : Option (Nat × Bool)} (w : World) :
    (execOp a.eval (⟨d, .buildSlice 22 5 #[(0, .const (.int .u8 97)), (1, .const (.int .u8 115)), (2, .const (.int .u8 105)), (3, .const (.int .u8 100)), (4, .const (.int .u8 101))], tp, pos, af, g⟩ : Oper)).run Tryd.prog w = .ok (.value (.slice (some ⟨w.heap.size, 0, none⟩) 5 5)) (w.alloc (Obj.cells (bcells asideL).toArray 5)) := by
  have e : ∀ v, a.eval (.const v) = v := fun _ => rfl
  simp [execOp, e, build5]
theorem run_slice3 (n cap i b : Nat) (hi : i ≤ cap) (w : World) :
    (Instr.sliceAt 31 (.slice (some ⟨b, 0, none⟩) n cap) none (some (.int .i64 (i : Int))) (some (.int .i64 (i : Int)))).run Tryd.prog w = .ok (.slice (some ⟨b, 0, none⟩) i i) w := by
  have he : Tryd.prog.elem 31 = 22 := by kernel_rfl
  have hu : Tryd.prog.underlying 31 = some (.slice (Tryd.prog.elem 31)) := by rw [he]; exact Tryd.underlying31
  have hs : ∀ w, (sizeOf 22).run Tryd.prog w = .ok 1 w := fun w => by kernel_rfl
  rw [run_sliceAt_slice w 31 _ _ _ _ hu, run_slice_hm w 31 (some ⟨b, 0, none⟩) n cap hu .i64 .i64 (i : Int) (i : Int) (by omega) (by omega) (by omega), he, hs]
  simp [Result.andThen, sliced, Addr.add]
theorem slP : SlK Tryd.prog 31 22 (.slice none 0 0) 1 24 := SlK.mk' Tryd.underlying31 (by kernel_rfl) rfl (by decide)
/-- append onto a slice that is full, one element -/
theorem run_appFull {vs : List Value} {u : Value} (bf b i : Nat) (w : World) (hl : vs.length = i) (hi : i ≤ 1000) (hc : ∀ (j : Nat) (x : Value), vs[j]? = some x → w.cell? ⟨bf, j, none⟩ = some x) (hb : ∃ fr, w.heap[b]? = some (Obj.cells [u].toArray 22 fr)) (hu : u.oneCell' = true) {tp : TypeId} :
    ∃ v' w', (Builtin.append_ #[31, 31] tp #[.slice (some ⟨bf, 0, none⟩) i i, .slice (some ⟨b, 0, none⟩) 1 1]).run Tryd.prog w = .ok v' w' ∧ ∃ cap pad, v' = .slice (some ⟨w.heap.size, 0, none⟩) (i + 1) cap ∧ cap ≤ maxLen ∧ i + 1 ≤ cap ∧ (∃ fr, w'.heap[w.heap.size]? = some (Obj.cells (vs ++ [u] ++ pad).toArray 22 fr)) ∧ Below w.heap.size w w' := by
  obtain ⟨inf, hi1, hz, hsize, hby⟩ := slP.i
  obtain ⟨fr, hb⟩ := hb
  have hcb : w.cell? ⟨b, 0, none⟩ = some u := by simp [World.cell?, hb]
  have hold : (Builtin.firstCells inf.size i (.slice (some ⟨bf, 0, none⟩) i i)).run Tryd.prog w.drew = .ok vs.toArray w.drew := by
    rw [hsize]
    have := run_loadCells_list (P := Tryd.prog) w.drew ⟨bf, 0, none⟩ vs (fun j v hv => by
      rw [Addr.add_mid, Nat.zero_add]
      exact hc j v hv)
    rw [hl] at this
    simpa [Builtin.firstCells] using this
  have hsrc : Src Tryd.prog inf.size 31 (.slice (some ⟨b, 0, none⟩) 1 1) 1 [u] w := by
    rw [hsize]
    exact Src.ofSlice w Tryd.underlying31 ⟨b, 0, none⟩ 1 1 [u] rfl (fun j x hx => by
      match j, hx with
      | 0, hx => obtain rfl : u = x := by simpa using hx
                 simpa [Addr.add] using hcb
      | j + 1, hx => simp at hx) (fun x hx => by obtain rfl : x = u := by simpa using hx
                                                 exact hu)
  have hgs := run_append_grow_src (P := Tryd.prog) w 31 31 tp 22 inf (.slice none 0 0) Tryd.underlying31 hi1 hz (some ⟨bf, 0, none⟩) i i vs hold (.slice (some ⟨b, 0, none⟩) 1 1) 1 [u] hsrc (by omega) (by omega) (by
    rw [hby]
    exact Nat.le_trans (Nat.mul_le_mul_right _ (nextslicecap_le (need := i + 1) (old := i) (by omega))) (by omega))
  have hge := grownCap_ge w (i + 1) i 22
  have hle := grownCap_le_maxLen w (i + 1) i 22 (by unfold maxLen; omega)
  generalize grownCap w (i + 1) i 22 = nc at *
  refine ⟨_, _, hgs, nc, (Builtin.zeroCells (Value.slice none 0 0).cells (nc - (i + 1))).toList, rfl, hle, hge, ⟨(0, 0), ?_⟩, ((Below.refl _ _).drew).alloc (by simp) _⟩
  have : ((vs ++ [u]).toArray ++ Builtin.zeroCells (Value.slice none 0 0).cells (nc - (i + 1))) = (vs ++ [u] ++ (Builtin.zeroCells (Value.slice none 0 0).cells (nc - (i + 1))).toList).toArray := by
    apply Array.ext'; simp
  rw [this]
  exact heap_alloc_new w.drew _
theorem run_appOp {P : Program} {ρ : Operand → Value} {d : Option Tmp} {x y : Operand} {t tp : TypeId} {pos : String} {af : Array Edge} {g : Option (Nat × Bool)} {w w' : World} {v1 v2 v : Value} (hx : ρ x = v1) (hy : ρ y = v2) (h : (Builtin.append_ #[t, t] tp #[v1, v2]).run P w = .ok v w') :
    (execOp ρ (⟨d, .call ⟨.builtin .append, #[x, y], #[t, t]⟩, tp, pos, af, g⟩ : Oper)).run P w = .ok (.value v) w' := by
  unfold execOp
  simp only [resolve, invoke, builtin, Sem.run_bind, Sem.run_pure, Result.andThen_ok, List.map_toArray, List.map_cons, List.map_nil, hx, hy, h]
abbrev spOps : Array Oper := #[
  { dst := some 77, op := .move (.tmp 7), type := 32, pos := "outright.go:40", after := #[], guard := none },
  { dst := some 78, op := .binOp .neq 32 (.tmp 77) (.const (Value.pointer none)) 32, type := 4, pos := "outright.go:40", after := #[{ on := 0, ground := .data }], guard := none },
  { dst := some 79, op := .move (.tmp 78), type := 4, pos := "outright.go:40", after := #[{ on := 1, ground := .data }], guard := none },
  { dst := some 80, op := .move (.tmp 9), type := 3, pos := "outright.go:40", after := #[{ on := 2, ground := .guard }], guard := some (2, true) },
  { dst := some 81, op := .move (.tmp 1), type := 5, pos := "outright.go:40", after := #[{ on := 2, ground := .guard }], guard := some (2, true) },
  { dst := some 82, op := .binOp .rem 5 (.tmp 81) (.const (Value.int IntKind.u8 20)) 5, type := 5, pos := "outright.go:40", after := #[{ on := 4, ground := .data }, { on := 2, ground := .guard }], guard := some (2, true) },
  { dst := some 83, op := .convert 5 3 (.tmp 82), type := 3, pos := "outright.go:40", after := #[{ on := 5, ground := .data }, { on := 2, ground := .guard }], guard := some (2, true) },
  { dst := some 84, op := .binOp .eql 3 (.tmp 80) (.tmp 83) 3, type := 4, pos := "outright.go:40", after := #[{ on := 3, ground := .data }, { on := 6, ground := .data }, { on := 2, ground := .guard }], guard := some (2, true) },
  { dst := some 85, op := .pick (.tmp 79) (.tmp 84) (.const (Value.bool false)), type := 4, pos := "outright.go:40", after := #[{ on := 2, ground := .data }, { on := 7, ground := .data }], guard := none },
  { dst := some 86, op := .move (.tmp 85), type := 4, pos := "outright.go:40", after := #[{ on := 8, ground := .data }, { on := 2, ground := .chain }], guard := none },
  { dst := some 87, op := .move (.tmp 7), type := 32, pos := "outright.go:40", after := #[{ on := 9, ground := .guard }], guard := some (9, true) },
  { dst := some 88, op := .call { callee := .value (.func 16), args := #[.tmp 87], argTypes := #[32] }, type := 25, pos := "outright.go:40", after := #[{ on := 10, ground := .data }, { on := 9, ground := .chain }, { on := 9, ground := .guard }], guard := some (9, true) },
  { dst := some 89, op := .move (.tmp 8), type := 31, pos := "outright.go:40", after := #[{ on := 9, ground := .guard }], guard := some (9, true) },
  { dst := some 90, op := .move (.tmp 9), type := 3, pos := "outright.go:40", after := #[{ on := 9, ground := .guard }], guard := some (9, true) },
  { dst := some 91, op := .move (.tmp 9), type := 3, pos := "outright.go:40", after := #[{ on := 9, ground := .guard }], guard := some (9, true) },
  { dst := some 92, op := .slice 31 (.tmp 89) none (some (.tmp 90)) (some (.tmp 91)), type := 31, pos := "outright.go:40", after := #[{ on := 12, ground := .data }, { on := 13, ground := .data }, { on := 14, ground := .data }, { on := 9, ground := .guard }], guard := some (9, true) },
  { dst := some 93, op := .buildSlice 22 5 #[(0, .const (Value.int IntKind.u8 97)), (1, .const (Value.int IntKind.u8 115)), (2, .const (Value.int IntKind.u8 105)), (3, .const (Value.int IntKind.u8 100)), (4, .const (Value.int IntKind.u8 101))], type := 22, pos := "outright.go:40", after := #[{ on := 9, ground := .guard }], guard := some (9, true) },
  { dst := some 94, op := .convert 22 22 (.tmp 93), type := 22, pos := "outright.go:40", after := #[{ on := 16, ground := .data }, { on := 9, ground := .guard }], guard := some (9, true) },
  { dst := some 95, op := .buildSlice 31 1 #[(0, .tmp 94)], type := 31, pos := "outright.go:40", after := #[{ on := 17, ground := .data }, { on := 9, ground := .guard }], guard := some (9, true) },
  { dst := some 96, op := .call { callee := .builtin .append, args := #[.tmp 92, .tmp 95], argTypes := #[31, 31] }, type := 31, pos := "outright.go:40", after := #[{ on := 15, ground := .data }, { on := 18, ground := .data }, { on := 11, ground := .chain }, { on := 9, ground := .guard }], guard := some (9, true) },
  { dst := some 97, op := .call { callee := .value (.func 18), args := #[.tmp 96], argTypes := #[31] }, type := 25, pos := "outright.go:40", after := #[{ on := 19, ground := .data }, { on := 19, ground := .chain }, { on := 9, ground := .guard }], guard := some (9, true) },
  { dst := some 98, op := .binOp .neq 25 (.tmp 88) (.tmp 97) 25, type := 4, pos := "outright.go:40", after := #[{ on := 11, ground := .data }, { on := 20, ground := .data }, { on := 9, ground := .guard }], guard := some (9, true) },
  { dst := some 99, op := .pick (.tmp 86) (.tmp 98) (.const (Value.bool false)), type := 4, pos := "outright.go:40", after := #[{ on := 9, ground := .data }, { on := 21, ground := .data }], guard := none }]
theorem below_freeze {B : Nat} {W w : World} {b k : Nat} (h : Below B W w) (hb : B ≤ b) : Below B W (w.freeze ⟨b, k, none⟩ 1) := by
  refine ⟨h.os, h.tape, h.output, Nat.le_trans h.size (Kc.freeze w b k).1, fun j hj => ?_⟩
  rw [← h.block j hj]
  unfold World.freeze
  rw [if_neg (by decide)]
  simp only [Array.getElem?_modify]
  rw [if_neg (by omega)]
set_option maxHeartbeats 4000000 in
set_option maxRecDepth 100000 in
theorem spreg {Q : Exit → Act → World → Prop} {a : Act} {W : World} {S2 i at_ bf cf : Nat} {vs : List Value} {dg : Array Value} (hsz : a.tmps.size = 109) (h7 : slot a 7 = .pointer (some ⟨S2, 0, none⟩)) (h9 : slot a 9 = .int .i64 (i : Int)) (h1 : slot a 1 = .int .u8 (at_ : Int)) (h8 : slot a 8 = .slice (some ⟨bf, 0, none⟩) (i + 1) cf)
    (hat : at_ < 256) (hi20 : at_ % 20 = i) (hcf : i + 1 ≤ cf) (hvl : i ≤ vs.length)
    (HS : ∀ wx, Below W.heap.size W wx → Calls Tryd.prog 16 #[.pointer (some ⟨S2, 0, none⟩)] wx fun e w' => e = .returned (.agg dg) ∧ Below wx.heap.size wx w')
    (HF : ∀ wx, Below W.heap.size W wx → ∀ (j : Nat) (u : Value), (vs.take i)[j]? = some u → wx.cell? ⟨bf, j, none⟩ = some u)
    (HA : ∀ wx b b' cap pad, Below W.heap.size W wx → Rw W wx b 22 (vs.take i ++ [.slice (some ⟨b', 0, none⟩) 5 5] ++ pad) → Rw W wx b' 5 (bcells asideL) → i + 1 ≤ cap → cap ≤ maxLen → Calls Tryd.prog 18 #[.slice (some ⟨b, 0, none⟩) (i + 1) cap] wx fun e w' => e = .returned (.agg dg) ∧ Below wx.heap.size wx w')
    (hneq : ∀ w, (binOp .neq 25 (.agg dg) (.agg dg)).run Tryd.prog w = .ok (.bool false) w) (hng : ∀ (x y : Operand) (w : World), (eqGuard .neq 25 x y (.agg dg) (.agg dg)).run Tryd.prog w = .ok () w)
    {C : Code} (hC : C = Code.region 25 spOps true)
    (he : ∀ a1 w1, a1 = [77, 78, 79, 80, 81, 82, 83, 84, 85, 86, 87, 88, 89, 90, 91, 92, 93, 94, 95, 96, 97, 98, 99].foldl (fun b d => b.put (some d) (slot a1 d)) a → Below W.heap.size W w1 → slot a1 99 = .bool false → Q .normal a1 w1) :
    C.wp Tryd.prog Q a W := by
  subst hC
  refine wp_region_spcS [77, 78, 79, 80, 81, 82, 83, 84, 85, 86, 87, 88, 89, 90, 91, 92, 93, 94, 95, 96, 97, 98, 99] (Below W.heap.size W) (spT W S2 i at_ (.slice (some ⟨bf, 0, none⟩) (i + 1) cf) bf vs dg) Kc (by kernel_rfl) (by kernel_rfl) (by decide) (by rw [hsz]; decide) (by kernel_rfl) (Below.refl _ _).drew (fun i v w w' h _ hb => spT_stays i v w w' h hb) ?_ ?_
  rotate_left
  · intro a1 w1 ha hC hT
    exact he a1 w1 ha hC (hT 22 (by decide))
  intro k hk a1 w1 hF hC hT
  have hk : k < 23 := hk
  have b7 : a1.eval (.tmp 7) = .pointer (some ⟨S2, 0, none⟩) := (hF.same 7 (by decide)).trans h7
  have b9 : a1.eval (.tmp 9) = .int .i64 (i : Int) := (hF.same 9 (by decide)).trans h9
  have b1 : a1.eval (.tmp 1) = .int .u8 (at_ : Int) := (hF.same 1 (by decide)).trans h1
  have b8 : a1.eval (.tmp 8) = .slice (some ⟨bf, 0, none⟩) (i + 1) cf := (hF.same 8 (by decide)).trans h8
  have ec : ∀ v, a1.eval (.const v) = v := fun _ => rfl
  have hkr := Kc.refl w1
  rcases (by omega : k = 0 ∨ k = 1 ∨ k = 2 ∨ k = 3 ∨ k = 4 ∨ k = 5 ∨ k = 6 ∨ k = 7 ∨ k = 8 ∨ k = 9 ∨ k = 10 ∨ k = 11 ∨ k = 12 ∨ k = 13 ∨ k = 14 ∨ k = 15 ∨ k = 16 ∨ k = 17 ∨ k = 18 ∨ k = 19 ∨ k = 20 ∨ k = 21 ∨ k = 22) with rfl | rfl | rfl | rfl | rfl | rfl | rfl | rfl | rfl | rfl | rfl | rfl | rfl | rfl | rfl | rfl | rfl | rfl | rfl | rfl | rfl | rfl | rfl
  · exact spcS_val (T := spT W S2 i at_ (.slice (some ⟨bf, 0, none⟩) (i + 1) cf) bf vs dg) (St := Kc) (d := 77) rfl (wanted_none rfl) run_move hC hkr b7
  · have hx : a1.eval (.tmp 77) = .pointer (some ⟨S2, 0, none⟩) := (hT 0 (by kernel_rfl))
    refine spcS_val (T := spT W S2 i at_ (.slice (some ⟨bf, 0, none⟩) (i + 1) cf) bf vs dg) (St := Kc) (d := 78) (v := .bool true) (w2 := w1) rfl (wanted_none rfl) ?_ hC hkr rfl
    unfold execOp
    simp only [hx, ec]
    simp [go_sem, Tryd.underlying32, eqGuard]
  · exact spcS_val (T := spT W S2 i at_ (.slice (some ⟨bf, 0, none⟩) (i + 1) cf) bf vs dg) (St := Kc) (d := 79) rfl (wanted_none rfl) run_move hC hkr (show slot a1 78 = _ from (hT 1 (by kernel_rfl)))
  · exact spcS_val (T := spT W S2 i at_ (.slice (some ⟨bf, 0, none⟩) (i + 1) cf) bf vs dg) (St := Kc) (d := 80) rfl (wanted_of (g := 2) (d := 79) rfl rfl (hT 2 (by kernel_rfl))) run_move hC hkr b9
  · exact spcS_val (T := spT W S2 i at_ (.slice (some ⟨bf, 0, none⟩) (i + 1) cf) bf vs dg) (St := Kc) (d := 81) rfl (wanted_of (g := 2) (d := 79) rfl rfl (hT 2 (by kernel_rfl))) run_move hC hkr b1
  · have hx : a1.eval (.tmp 81) = .int .u8 (at_ : Int) := (hT 4 (by kernel_rfl))
    refine spcS_val (T := spT W S2 i at_ (.slice (some ⟨bf, 0, none⟩) (i + 1) cf) bf vs dg) (St := Kc) (d := 82) (v := .int .u8 ((at_ % 20 : Nat) : Int)) (w2 := w1) rfl (wanted_of (g := 2) (d := 79) rfl rfl (hT 2 (by kernel_rfl))) ?_ hC hkr rfl
    unfold execOp
    simp only [hx, ec]
    simp [go_sem]
    rw [Int.tmod_eq_emod_of_nonneg (by omega)]
  · have hx : a1.eval (.tmp 82) = .int .u8 ((at_ % 20 : Nat) : Int) := (hT 5 (by kernel_rfl))
    refine spcS_val (T := spT W S2 i at_ (.slice (some ⟨bf, 0, none⟩) (i + 1) cf) bf vs dg) (St := Kc) (d := 83) (v := .int .i64 (i : Int)) (w2 := w1) rfl (wanted_of (g := 2) (d := 79) rfl rfl (hT 2 (by kernel_rfl))) ?_ hC hkr rfl
    rw [hi20] at hx
    unfold execOp
    simp only [hx]
    simp [go_sem]
    exact IntWalk.i64_in (i : Int) (by omega)
  · have hx : a1.eval (.tmp 80) = .int .i64 (i : Int) := (hT 3 (by kernel_rfl))
    have hy : a1.eval (.tmp 83) = .int .i64 (i : Int) := (hT 6 (by kernel_rfl))
    refine spcS_val (T := spT W S2 i at_ (.slice (some ⟨bf, 0, none⟩) (i + 1) cf) bf vs dg) (St := Kc) (d := 84) (v := .bool true) (w2 := w1) rfl (wanted_of (g := 2) (d := 79) rfl rfl (hT 2 (by kernel_rfl))) ?_ hC hkr rfl
    unfold execOp
    simp only [hx, hy]
    simp [go_sem, eqGuard]
  · exact spcS_val (T := spT W S2 i at_ (.slice (some ⟨bf, 0, none⟩) (i + 1) cf) bf vs dg) (St := Kc) (d := 85) rfl (wanted_none rfl) (run_pickT (hT 2 (by kernel_rfl))) hC hkr (show slot a1 84 = _ from (hT 7 (by kernel_rfl)))
  · exact spcS_val (T := spT W S2 i at_ (.slice (some ⟨bf, 0, none⟩) (i + 1) cf) bf vs dg) (St := Kc) (d := 86) rfl (wanted_none rfl) run_move hC hkr (show slot a1 85 = _ from (hT 8 (by kernel_rfl)))
  · exact spcS_val (T := spT W S2 i at_ (.slice (some ⟨bf, 0, none⟩) (i + 1) cf) bf vs dg) (St := Kc) (d := 87) rfl (wanted_of (g := 9) (d := 86) rfl rfl (hT 9 (by kernel_rfl))) run_move hC hkr b7
  · have hx : a1.eval (.tmp 87) = .pointer (some ⟨S2, 0, none⟩) := (hT 10 (by kernel_rfl))
    refine spcS_call (T := spT W S2 i at_ (.slice (some ⟨bf, 0, none⟩) (i + 1) cf) bf vs dg) (St := Kc) (d := 88) (vs := #[.pointer (some ⟨S2, 0, none⟩)]) rfl (wanted_of (g := 9) (d := 86) rfl rfl (hT 9 (by kernel_rfl))) (Go.Proofs.enters_of Tryd.func16 (by kernel_rfl) rfl) (by simp [hx]) ?_
    refine (HS w1 hC).mono ?_
    rintro e wz ⟨rfl, hb⟩
    exact ⟨_, rfl, hC.trans (hb.mono hC.size), Kc.of_below hb, rfl⟩
  · exact spcS_val (T := spT W S2 i at_ (.slice (some ⟨bf, 0, none⟩) (i + 1) cf) bf vs dg) (St := Kc) (d := 89) rfl (wanted_of (g := 9) (d := 86) rfl rfl (hT 9 (by kernel_rfl))) run_move hC hkr b8
  · exact spcS_val (T := spT W S2 i at_ (.slice (some ⟨bf, 0, none⟩) (i + 1) cf) bf vs dg) (St := Kc) (d := 90) rfl (wanted_of (g := 9) (d := 86) rfl rfl (hT 9 (by kernel_rfl))) run_move hC hkr b9
  · exact spcS_val (T := spT W S2 i at_ (.slice (some ⟨bf, 0, none⟩) (i + 1) cf) bf vs dg) (St := Kc) (d := 91) rfl (wanted_of (g := 9) (d := 86) rfl rfl (hT 9 (by kernel_rfl))) run_move hC hkr b9
  · have hx : a1.eval (.tmp 89) = .slice (some ⟨bf, 0, none⟩) (i + 1) cf := (hT 12 (by kernel_rfl))
    have hy : a1.eval (.tmp 90) = .int .i64 (i : Int) := (hT 13 (by kernel_rfl))
    have hz : a1.eval (.tmp 91) = .int .i64 (i : Int) := (hT 14 (by kernel_rfl))
    exact spcS_val (T := spT W S2 i at_ (.slice (some ⟨bf, 0, none⟩) (i + 1) cf) bf vs dg) (St := Kc) (d := 92) rfl (wanted_of (g := 9) (d := 86) rfl rfl (hT 9 (by kernel_rfl))) (run_slB (by simp only [Option.map_none, Option.map_some, hx, hy, hz]; exact run_slice3 (i + 1) cf i bf (by omega) w1)) hC hkr rfl
  · exact spcS_val (T := spT W S2 i at_ (.slice (some ⟨bf, 0, none⟩) (i + 1) cf) bf vs dg) (St := Kc) (d := 93) rfl (wanted_of (g := 9) (d := 86) rfl rfl (hT 9 (by kernel_rfl))) (run_build5 w1) (hC.alloc hC.size _) (Kc.of_below ((Below.refl _ _).alloc (Nat.le_refl _) _)) ⟨_, rfl, hC.size, (0, 0), heap_alloc_new w1 _⟩
  · obtain ⟨b, hv, hrw⟩ := (show spT W S2 i at_ (.slice (some ⟨bf, 0, none⟩) (i + 1) cf) bf vs dg 16 (slot a1 93) w1 from (hT 16 (by kernel_rfl)))
    have hx : a1.eval (.tmp 93) = .slice (some ⟨b, 0, none⟩) 5 5 := hv
    obtain ⟨hbW, fr, hb⟩ := hrw
    refine spcS_val (T := spT W S2 i at_ (.slice (some ⟨bf, 0, none⟩) (i + 1) cf) bf vs dg) (St := Kc) (d := 94) (v := .slice (some ⟨b, 0, none⟩) 5 5) (w2 := w1.freeze ⟨b, (bcells asideL).toArray.size, none⟩ 1) rfl (wanted_of (g := 9) (d := 86) rfl rfl (hT 9 (by kernel_rfl))) ?_ (below_freeze hC hbW) (Kc.freeze w1 b _) ⟨b, rfl, (show Rw W w1 b 5 (bcells asideL) from ⟨hbW, fr, hb⟩).kc (Kc.freeze w1 b _)⟩
    unfold execOp
    simp only [hx]
    simp only [Sem.run_bind, run_conv_at Tryd.underlying22 Tryd.underlying5 hb, Result.andThen_ok, Sem.run_pure]
  · obtain ⟨b, hv, hrw⟩ := (show spT W S2 i at_ (.slice (some ⟨bf, 0, none⟩) (i + 1) cf) bf vs dg 17 (slot a1 94) w1 from (hT 17 (by kernel_rfl)))
    have hx : a1.eval (.tmp 94) = .slice (some ⟨b, 0, none⟩) 5 5 := hv
    have hkc : Kc w1 (w1.alloc (.cells (a1.eval (.tmp 94)).cells 22)) := Kc.of_below ((Below.refl _ _).alloc (Nat.le_refl _) _)
    refine spcS_val (T := spT W S2 i at_ (.slice (some ⟨bf, 0, none⟩) (i + 1) cf) bf vs dg) (St := Kc) (d := 95) rfl (wanted_of (g := 9) (d := 86) rfl rfl (hT 9 (by kernel_rfl))) (run_build1 slP (by decide) (by rw [hx]; rfl)) (hC.alloc hC.size _) hkc ⟨_, b, rfl, ⟨hC.size, (0, 0), ?_⟩, hrw.kc hkc⟩
    rw [hx]
    exact heap_alloc_new w1 _
  · obtain ⟨b, b', hv, hrw, hrw'⟩ := (show spT W S2 i at_ (.slice (some ⟨bf, 0, none⟩) (i + 1) cf) bf vs dg 18 (slot a1 95) w1 from (hT 18 (by kernel_rfl)))
    have hx : a1.eval (.tmp 92) = .slice (some ⟨bf, 0, none⟩) i i := (hT 15 (by kernel_rfl))
    have hy : a1.eval (.tmp 95) = .slice (some ⟨b, 0, none⟩) 1 1 := hv
    obtain ⟨v2, w2, hrun, cap, pad, rfl, hcm, hic, hrow, hbl⟩ := run_appFull (vs := vs.take i) (u := .slice (some ⟨b', 0, none⟩) 5 5) bf b i w1 (by rw [List.length_take]; omega) (by omega) (HF w1 hC) hrw.2 rfl
    refine spcS_val (T := spT W S2 i at_ (.slice (some ⟨bf, 0, none⟩) (i + 1) cf) bf vs dg) (St := Kc) (d := 96) rfl (wanted_of (g := 9) (d := 86) rfl rfl (hT 9 (by kernel_rfl))) (run_appOp hx hy hrun) (hC.trans (hbl.mono hC.size)) (Kc.of_below hbl) ⟨_, b', cap, pad, rfl, hcm, hic, ⟨hC.size, hrow⟩, hrw'.kc (Kc.of_below hbl)⟩
  · obtain ⟨b, b', cap, pad, hv, h1, h2, h3, h4⟩ := (show spT W S2 i at_ (.slice (some ⟨bf, 0, none⟩) (i + 1) cf) bf vs dg 19 (slot a1 96) w1 from (hT 19 (by kernel_rfl)))
    have hx : a1.eval (.tmp 96) = .slice (some ⟨b, 0, none⟩) (i + 1) cap := hv
    refine spcS_call (T := spT W S2 i at_ (.slice (some ⟨bf, 0, none⟩) (i + 1) cf) bf vs dg) (St := Kc) (d := 97) (vs := #[.slice (some ⟨b, 0, none⟩) (i + 1) cap]) rfl (wanted_of (g := 9) (d := 86) rfl rfl (hT 9 (by kernel_rfl))) (Go.Proofs.enters_of Tryd.func18 (by kernel_rfl) rfl) (by simp [hx]) ?_
    refine (HA w1 b b' cap pad hC h3 h4 h2 h1).mono ?_
    rintro e wz ⟨rfl, hb⟩
    exact ⟨_, rfl, hC.trans (hb.mono hC.size), Kc.of_below hb, rfl⟩
  · have hx : a1.eval (.tmp 88) = .agg dg := (hT 11 (by kernel_rfl))
    have hy : a1.eval (.tmp 97) = .agg dg := (hT 20 (by kernel_rfl))
    refine spcS_val (T := spT W S2 i at_ (.slice (some ⟨bf, 0, none⟩) (i + 1) cf) bf vs dg) (St := Kc) (d := 98) (v := .bool false) (w2 := w1) rfl (wanted_of (g := 9) (d := 86) rfl rfl (hT 9 (by kernel_rfl))) ?_ hC hkr rfl
    unfold execOp
    simp only [hx, hy, Sem.run_bind, Sem.run_pure, Result.andThen_ok, hng, hneq]
  · exact spcS_val (T := spT W S2 i at_ (.slice (some ⟨bf, 0, none⟩) (i + 1) cf) bf vs dg) (St := Kc) (d := 99) rfl (wanted_none rfl) (run_pickT (hT 9 (by kernel_rfl))) hC hkr (show slot a1 98 = _ from (hT 21 (by kernel_rfl)))
end Go.Proofs.YtofficleahalaaaDoor
