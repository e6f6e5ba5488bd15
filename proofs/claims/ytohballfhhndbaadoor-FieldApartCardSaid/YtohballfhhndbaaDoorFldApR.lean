/- FieldApart: the last region: three comparisons, one of them with a slice that is made; wakes. -/
import Derived.Test.YtohballfhhndbaaDoorFieldBlocks
import Derived.Test.YtohballfhhndbaaDoorSpc
import Derived.Test.YtohballfhhndbaaDoorMk
namespace Go.Proofs.YtohballfhhndbaaDoor
open Go.RowKit
theorem sliceAt_to500 (S : Nat) (w : World) :
    (Instr.sliceAt 35 (.pointer (some ⟨S, 0, none⟩)) none (some (.int .i64 500)) none).run Tryd.prog w = .ok (.slice (some ⟨S, 0, none⟩) 500 512) w := by
  have hl : Tryd.prog.arrayLen 35 = 512 := by kernel_rfl
  have he : Tryd.prog.elem 35 = 5 := by kernel_rfl
  have hs : ∀ w, (sizeOf 5).run Tryd.prog w = .ok 1 w := fun w => by kernel_rfl
  rw [run_sliceAt_array_h w 35 ⟨S, 0, none⟩ (by rw [hl, he]; exact Tryd.underlying35) .i64 500 (by omega) (by rw [hl]; omega), hl, he, hs]
  simp [Result.andThen, slicedAt, Addr.add]
theorem sliceAt_bto500 (S : Nat) (w : World) :
    (Instr.sliceAt 37 (.pointer (some ⟨S, 0, none⟩)) none (some (.int .i64 500)) none).run Tryd.prog w = .ok (.slice (some ⟨S, 0, none⟩) 500 512) w := by
  have hl : Tryd.prog.arrayLen 37 = 512 := by kernel_rfl
  have he : Tryd.prog.elem 37 = 5 := by kernel_rfl
  have hs : ∀ w, (sizeOf 5).run Tryd.prog w = .ok 1 w := fun w => by kernel_rfl
  rw [run_sliceAt_array_h w 37 ⟨S, 0, none⟩ (by rw [hl, he]; exact Tryd.underlying37) .i64 500 (by omega) (by rw [hl]; omega), hl, he, hs]
  simp [Result.andThen, slicedAt, Addr.add]
theorem sliceAt_bfrom500 (S : Nat) (w : World) :
    (Instr.sliceAt 37 (.pointer (some ⟨S, 0, none⟩)) (some (.int .i64 500)) none none).run Tryd.prog w = .ok (.slice (some ⟨S, 500, none⟩) 12 12) w := by
  have hl : Tryd.prog.arrayLen 37 = 512 := by kernel_rfl
  have he : Tryd.prog.elem 37 = 5 := by kernel_rfl
  have hs : ∀ w, (sizeOf 5).run Tryd.prog w = .ok 1 w := fun w => by kernel_rfl
  rw [run_sliceAt_array_l w 37 ⟨S, 0, none⟩ (by rw [hl, he]; exact Tryd.underlying37) .i64 500 (by omega) (by rw [hl]; omega), hl, he, hs]
  simp [Result.andThen, slicedAt, Addr.add_mid]
/-- what is said of each operation's value -/
def apT (s4 : Value) (g0 g2 : Nat) : Nat → Value → World → Prop
  | 0, v, _ => v = s4
  | 1, v, _ => v = .int .i64 500
  | 4, v, _ => v = s4
  | 5, v, _ => v = .slice (some ⟨g0, 0, none⟩) 500 512
  | 9, v, _ => v = .slice (some ⟨g2, 0, none⟩) 500 512
  | 10, v, _ => v = .slice (some ⟨g0, 0, none⟩) 500 512
  | 14, v, _ => v = .slice (some ⟨g2, 500, none⟩) 12 12
  | 15, v, w => ∃ b, v = .slice (some ⟨b, 0, none⟩) 12 12 ∧ Row w b 5 (Array.replicate 12 (.int .u8 0))
  | _, v, _ => v = .bool true
theorem apT_stays {s4 : Value} {g0 g2 : Nat} (i : Nat) (v : Value) (w w' : World) (h : apT s4 g0 g2 i v w) (hb : Below w.heap.size w w') : apT s4 g0 g2 i v w' := by
  unfold apT at h ⊢
  split at h <;> try exact h
  obtain ⟨b, rfl, hr⟩ := h
  exact ⟨b, rfl, hr.below hb hr.lt⟩
theorem zeros12 : Array.replicate 12 (Value.int .u8 0) = (bcells (List.replicate 12 0)).toArray := rfl
abbrev apOps : Array Oper := #[
{ dst := some 34, op := .move (.tmp 4), type := 22, pos := "outright.go:77", after := #[], guard := none },
  { dst := some 35, op := .call { callee := .builtin .len, args := #[.tmp 34], argTypes := #[22] }, type := 3, pos := "outright.go:77", after := #[{ on := 0, ground := .data }], guard := none },
  { dst := some 36, op := .binOp .eql 3 (.tmp 35) (.const (Value.int IntKind.i64 500)) 3, type := 4, pos := "outright.go:77", after := #[{ on := 1, ground := .data }], guard := none },
  { dst := some 37, op := .move (.tmp 36), type := 4, pos := "outright.go:77", after := #[{ on := 2, ground := .data }], guard := none },
  { dst := some 38, op := .move (.tmp 4), type := 22, pos := "outright.go:77", after := #[{ on := 3, ground := .guard }], guard := some (3, true) },
  { dst := some 39, op := .slice 35 (.tmp 1) none (some (.const (Value.int IntKind.i64 500))) none, type := 22, pos := "outright.go:77", after := #[{ on := 3, ground := .guard }], guard := some (3, true) },
  { dst := some 40, op := .call { callee := .value (.func 16), args := #[.tmp 38, .tmp 39], argTypes := #[22, 22] }, type := 4, pos := "outright.go:77", after := #[{ on := 4, ground := .data }, { on := 5, ground := .data }, { on := 3, ground := .chain }, { on := 3, ground := .guard }], guard := some (3, true) },
  { dst := some 41, op := .pick (.tmp 37) (.tmp 40) (.const (Value.bool false)), type := 4, pos := "outright.go:77", after := #[{ on := 3, ground := .data }, { on := 6, ground := .data }], guard := none },
  { dst := some 42, op := .move (.tmp 41), type := 4, pos := "outright.go:77", after := #[{ on := 7, ground := .data }, { on := 6, ground := .chain }], guard := none },
  { dst := some 43, op := .slice 37 (.tmp 5) none (some (.const (Value.int IntKind.i64 500))) none, type := 22, pos := "outright.go:77", after := #[{ on := 8, ground := .guard }], guard := some (8, true) },
  { dst := some 44, op := .slice 35 (.tmp 1) none (some (.const (Value.int IntKind.i64 500))) none, type := 22, pos := "outright.go:77", after := #[{ on := 8, ground := .guard }], guard := some (8, true) },
  { dst := some 45, op := .call { callee := .value (.func 16), args := #[.tmp 43, .tmp 44], argTypes := #[22, 22] }, type := 4, pos := "outright.go:77", after := #[{ on := 9, ground := .data }, { on := 10, ground := .data }, { on := 8, ground := .chain }, { on := 8, ground := .guard }], guard := some (8, true) },
  { dst := some 46, op := .pick (.tmp 42) (.tmp 45) (.const (Value.bool false)), type := 4, pos := "outright.go:77", after := #[{ on := 8, ground := .data }, { on := 11, ground := .data }], guard := none },
  { dst := some 47, op := .move (.tmp 46), type := 4, pos := "outright.go:77", after := #[{ on := 12, ground := .data }, { on := 11, ground := .chain }], guard := none },
  { dst := some 48, op := .slice 37 (.tmp 5) (some (.const (Value.int IntKind.i64 500))) none none, type := 22, pos := "outright.go:77", after := #[{ on := 13, ground := .guard }], guard := some (13, true) },
  { dst := some 49, op := .makeSlice 22 (.const (Value.int IntKind.i64 12)) (.const (Value.int IntKind.i64 12)), type := 22, pos := "outright.go:77", after := #[{ on := 13, ground := .guard }], guard := some (13, true) },
  { dst := some 50, op := .call { callee := .value (.func 16), args := #[.tmp 48, .tmp 49], argTypes := #[22, 22] }, type := 4, pos := "outright.go:77", after := #[{ on := 14, ground := .data }, { on := 15, ground := .data }, { on := 13, ground := .chain }, { on := 13, ground := .guard }], guard := some (13, true) },
  { dst := some 51, op := .pick (.tmp 47) (.tmp 50) (.const (Value.bool false)), type := 4, pos := "outright.go:77", after := #[{ on := 13, ground := .data }, { on := 16, ground := .data }], guard := none },
  { dst := some 52, op := .move (.tmp 51), type := 4, pos := "outright.go:77", after := #[{ on := 17, ground := .data }, { on := 16, ground := .chain }], guard := none },
  { dst := some 53, op := .call { callee := .value (.func 17), args := #[], argTypes := #[] }, type := 4, pos := "outright.go:77", after := #[{ on := 18, ground := .chain }, { on := 18, ground := .guard }], guard := some (18, true) },
  { dst := some 54, op := .pick (.tmp 52) (.tmp 53) (.const (Value.bool false)), type := 4, pos := "outright.go:77", after := #[{ on := 18, ground := .data }, { on := 19, ground := .data }], guard := none },
  { dst := some 2, op := .assign (.tmp 54), type := 4, pos := "outright.go:77", after := #[{ on := 20, ground := .data }, { on := 19, ground := .chain }, { on := 0, ground := .phase }, { on := 1, ground := .phase }, { on := 2, ground := .phase }, { on := 3, ground := .phase }, { on := 4, ground := .phase }, { on := 5, ground := .phase }, { on := 6, ground := .phase }, { on := 7, ground := .phase }, { on := 8, ground := .phase }, { on := 9, ground := .phase }, { on := 10, ground := .phase }, { on := 11, ground := .phase }, { on := 12, ground := .phase }, { on := 13, ground := .phase }, { on := 14, ground := .phase }, { on := 15, ground := .phase }, { on := 16, ground := .phase }, { on := 17, ground := .phase }, { on := 18, ground := .phase }, { on := 19, ground := .phase }, { on := 20, ground := .phase }], guard := none }]
set_option maxHeartbeats 4000000 in
set_option maxRecDepth 100000 in
theorem apreg {Q : Exit → Act → World → Prop} {a : Act} {W : World} {s4 : Value} {g0 g2 : Nat} {l : List UInt8} (hl : l.length = 512) (hsz : a.tmps.size = 55) (h1 : slot a 1 = .pointer (some ⟨g0, 0, none⟩)) (h5 : slot a 5 = .pointer (some ⟨g2, 0, none⟩)) (h4 : slot a 4 = s4) (hs4 : ∃ a4 c4, s4 = .slice a4 500 c4)
    (HE : ∀ wx, Below W.heap.size W wx → Reads wx (fun _ => True) s4 (l.take 500) ∧ Reads wx (fun _ => True) (.slice (some ⟨g0, 0, none⟩) 500 512) (l.take 500) ∧ Reads wx (fun _ => True) (.slice (some ⟨g2, 0, none⟩) 500 512) (l.take 500) ∧ Reads wx (fun _ => True) (.slice (some ⟨g2, 500, none⟩) 12 12) (List.replicate 12 0))
    (HW : ∀ wx, Below W.heap.size W wx → Calls Tryd.prog 17 #[] wx fun e w' => e = .returned (.bool true) ∧ Below wx.heap.size wx w')
    {C : Code} (hC : C = Code.region 13 apOps true)
    (he : ∀ a1 w1, a1 = [34, 35, 36, 37, 38, 39, 40, 41, 42, 43, 44, 45, 46, 47, 48, 49, 50, 51, 52, 53, 54, 2].foldl (fun b d => b.put (some d) (slot a1 d)) a → Below W.heap.size W w1 → slot a1 2 = .bool true → Q .normal a1 w1) :
    C.wp Tryd.prog Q a W := by
  subst hC
  obtain ⟨a4, c4, hs4⟩ := hs4
  refine wp_region_spc [34, 35, 36, 37, 38, 39, 40, 41, 42, 43, 44, 45, 46, 47, 48, 49, 50, 51, 52, 53, 54, 2] (Below W.heap.size W) (apT s4 g0 g2) (by kernel_rfl) (by kernel_rfl) (by decide) (by rw [hsz]; decide) (by kernel_rfl) (Below.refl _ _).drew (fun i v w w' h _ hb => apT_stays i v w w' h hb) ?_ ?_
  rotate_left
  · intro a1 w1 ha hC hT
    exact he a1 w1 ha hC (hT 21 (by decide))
  intro i hi a1 w1 hF hC hT
  have hi : i < 22 := hi
  have b1 : a1.eval (.tmp 1) = .pointer (some ⟨g0, 0, none⟩) := (hF.same 1 (by decide)).trans h1
  have b5 : a1.eval (.tmp 5) = .pointer (some ⟨g2, 0, none⟩) := (hF.same 5 (by decide)).trans h5
  have b4 : a1.eval (.tmp 4) = s4 := (hF.same 4 (by decide)).trans h4
  obtain ⟨r1, r2, r3, r4⟩ := HE w1 hC
  have hbr := Below.refl w1.heap.size w1
  rcases (by omega : i = 0 ∨ i = 1 ∨ i = 2 ∨ i = 3 ∨ i = 4 ∨ i = 5 ∨ i = 6 ∨ i = 7 ∨ i = 8 ∨ i = 9 ∨ i = 10 ∨ i = 11 ∨ i = 12 ∨ i = 13 ∨ i = 14 ∨ i = 15 ∨ i = 16 ∨ i = 17 ∨ i = 18 ∨ i = 19 ∨ i = 20 ∨ i = 21) with rfl | rfl | rfl | rfl | rfl | rfl | rfl | rfl | rfl | rfl | rfl | rfl | rfl | rfl | rfl | rfl | rfl | rfl | rfl | rfl | rfl | rfl
  · exact spc_val (T := apT s4 g0 g2) (d := 34) rfl (wanted_none rfl) run_move hC hbr b4
  · exact spc_val (T := apT s4 g0 g2) (d := 35) rfl (wanted_none rfl) (run_lenSl Tryd.underlying22 (show a1.eval (.tmp 34) = .slice a4 500 c4 from (show slot a1 34 = s4 from (hT 0 (by kernel_rfl))).trans hs4)) hC hbr rfl
  · have h35 : a1.eval (.tmp 35) = .int .i64 500 := (hT 1 (by kernel_rfl))
    refine spc_val (T := apT s4 g0 g2) (d := 36) (v := .bool true) (w2 := w1) rfl (wanted_none rfl) ?_ hC hbr rfl
    unfold execOp
    simp only [h35, show a1.eval (.const (.int .i64 500)) = .int .i64 500 from rfl]
    rfl
  · exact spc_val (T := apT s4 g0 g2) (d := 37) rfl (wanted_none rfl) run_move hC hbr (show slot a1 36 = _ from (hT 2 (by kernel_rfl)))
  · exact spc_val (T := apT s4 g0 g2) (d := 38) rfl (wanted_of (g := 3) (d := 37) rfl rfl (hT 3 (by kernel_rfl))) run_move hC hbr b4
  · exact spc_val (T := apT s4 g0 g2) (d := 39) rfl (wanted_of (g := 3) (d := 37) rfl rfl (hT 3 (by kernel_rfl))) (run_slB (by rw [b1]; exact sliceAt_to500 g0 w1)) hC hbr rfl
  · have hx : a1.eval (.tmp 38) = s4 := (hT 4 (by kernel_rfl))
    have hy : a1.eval (.tmp 39) = .slice (some ⟨g0, 0, none⟩) 500 512 := (show slot a1 39 = _ from (hT 5 (by kernel_rfl)))
    refine spc_call (T := apT s4 g0 g2) (d := 40) (vs := #[s4, .slice (some ⟨g0, 0, none⟩) 500 512]) rfl (wanted_of (g := 3) (d := 37) rfl rfl (hT 3 (by kernel_rfl))) (Go.Proofs.enters_of Tryd.func16 (by kernel_rfl) rfl) (by simp [hx, hy]) ?_
    refine (equal_any _ _ _ _ _ _ w1 r1 r2).mono ?_
    rintro e wz ⟨rfl, rfl⟩
    exact ⟨_, rfl, hC, hbr, by rw [beq_self_eq_true]; rfl⟩
  · exact spc_val (T := apT s4 g0 g2) (d := 41) rfl (wanted_none rfl) (run_pickT (hT 3 (by kernel_rfl))) hC hbr (show slot a1 40 = _ from (hT 6 (by kernel_rfl)))
  · exact spc_val (T := apT s4 g0 g2) (d := 42) rfl (wanted_none rfl) run_move hC hbr (show slot a1 41 = _ from (hT 7 (by kernel_rfl)))
  · exact spc_val (T := apT s4 g0 g2) (d := 43) rfl (wanted_of (g := 8) (d := 42) rfl rfl (hT 8 (by kernel_rfl))) (run_slB (by rw [b5]; exact sliceAt_bto500 g2 w1)) hC hbr rfl
  · exact spc_val (T := apT s4 g0 g2) (d := 44) rfl (wanted_of (g := 8) (d := 42) rfl rfl (hT 8 (by kernel_rfl))) (run_slB (by rw [b1]; exact sliceAt_to500 g0 w1)) hC hbr rfl
  · have hx : a1.eval (.tmp 43) = .slice (some ⟨g2, 0, none⟩) 500 512 := (hT 9 (by kernel_rfl))
    have hy : a1.eval (.tmp 44) = .slice (some ⟨g0, 0, none⟩) 500 512 := (show slot a1 44 = _ from (hT 10 (by kernel_rfl)))
    refine spc_call (T := apT s4 g0 g2) (d := 45) (vs := #[.slice (some ⟨g2, 0, none⟩) 500 512, .slice (some ⟨g0, 0, none⟩) 500 512]) rfl (wanted_of (g := 8) (d := 42) rfl rfl (hT 8 (by kernel_rfl))) (Go.Proofs.enters_of Tryd.func16 (by kernel_rfl) rfl) (by simp [hx, hy]) ?_
    refine (equal_any _ _ _ _ _ _ w1 r3 r2).mono ?_
    rintro e wz ⟨rfl, rfl⟩
    exact ⟨_, rfl, hC, hbr, by rw [beq_self_eq_true]; rfl⟩
  · exact spc_val (T := apT s4 g0 g2) (d := 46) rfl (wanted_none rfl) (run_pickT (hT 8 (by kernel_rfl))) hC hbr (show slot a1 45 = _ from (hT 11 (by kernel_rfl)))
  · exact spc_val (T := apT s4 g0 g2) (d := 47) rfl (wanted_none rfl) run_move hC hbr (show slot a1 46 = _ from (hT 12 (by kernel_rfl)))
  · exact spc_val (T := apT s4 g0 g2) (d := 48) rfl (wanted_of (g := 13) (d := 47) rfl rfl (hT 13 (by kernel_rfl))) (run_slB (by rw [b5]; exact sliceAt_bfrom500 g2 w1)) hC hbr rfl
  · have hmk := mkS (P := Tryd.prog) (T := 22) (e := 5) (z := .int .u8 0) (b := 1) Tryd.underlying22 (by kernel_rfl) rfl (by decide) 12 12 rfl (by decide) w1
    exact spc_val (T := apT s4 g0 g2) (d := 49) rfl (wanted_of (g := 13) (d := 47) rfl rfl (hT 13 (by kernel_rfl))) (run_mkB hmk) (hC.alloc hC.size _) (hbr.alloc (Nat.le_refl _) _) ⟨_, rfl, Row.new _ _ _⟩
  · obtain ⟨bz, hz, hrow⟩ := (show apT s4 g0 g2 15 (slot a1 49) w1 from (hT 15 (by kernel_rfl)))
    have rz : Reads w1 (fun _ => True) (.slice (some ⟨bz, 0, none⟩) 12 12) (List.replicate 12 0) := RdV.toBytes (RdV.ofRow hrow trivial 1 0 12 12 (bcells (List.replicate 12 0)) rfl (Nat.le_refl _) (by decide) (fun j u hu => by rw [zeros12, List.getElem?_toArray, Nat.zero_add]; exact hu))
    have hx : a1.eval (.tmp 48) = .slice (some ⟨g2, 500, none⟩) 12 12 := (hT 14 (by kernel_rfl))
    have hy : a1.eval (.tmp 49) = .slice (some ⟨bz, 0, none⟩) 12 12 := hz
    refine spc_call (T := apT s4 g0 g2) (d := 50) (vs := #[.slice (some ⟨g2, 500, none⟩) 12 12, .slice (some ⟨bz, 0, none⟩) 12 12]) rfl (wanted_of (g := 13) (d := 47) rfl rfl (hT 13 (by kernel_rfl))) (Go.Proofs.enters_of Tryd.func16 (by kernel_rfl) rfl) (by simp [hx, hy]) ?_
    refine (equal_any _ _ _ _ _ _ w1 r4 rz).mono ?_
    rintro e wz ⟨rfl, rfl⟩
    exact ⟨_, rfl, hC, hbr, by rw [beq_self_eq_true]; rfl⟩
  · exact spc_val (T := apT s4 g0 g2) (d := 51) rfl (wanted_none rfl) (run_pickT (hT 13 (by kernel_rfl))) hC hbr (show slot a1 50 = _ from (hT 16 (by kernel_rfl)))
  · exact spc_val (T := apT s4 g0 g2) (d := 52) rfl (wanted_none rfl) run_move hC hbr (show slot a1 51 = _ from (hT 17 (by kernel_rfl)))
  · refine spc_call (T := apT s4 g0 g2) (d := 53) (vs := #[]) rfl (wanted_of (g := 18) (d := 52) rfl rfl (hT 18 (by kernel_rfl))) (Go.Proofs.enters_of Tryd.func17 (by kernel_rfl) rfl) Array.map_empty ?_
    refine (HW w1 hC).mono ?_
    rintro e wz ⟨rfl, hb⟩
    exact ⟨_, rfl, hC.trans (hb.mono hC.size), hb, rfl⟩
  · exact spc_val (T := apT s4 g0 g2) (d := 54) rfl (wanted_none rfl) (run_pickT (hT 18 (by kernel_rfl))) hC hbr (show slot a1 53 = _ from (hT 19 (by kernel_rfl)))
  · exact spc_val (T := apT s4 g0 g2) (d := 2) rfl (wanted_none rfl) run_assign hC hbr (show slot a1 54 = _ from (hT 20 (by kernel_rfl)))
end Go.Proofs.YtohballfhhndbaaDoor
