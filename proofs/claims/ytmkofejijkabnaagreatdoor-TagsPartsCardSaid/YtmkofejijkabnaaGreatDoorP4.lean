/- PARTS OF ONE PROOF, set in one file: PArm, DkM, DkNew, DkStep, DkDeed, DkUsed, DkAsks, MayName, Conv, ConvS, DkFind, DkAt, Spc, SpcT. Each part tells its own conditions. -/
import Derived.Sort.LoopGhostIn
import Derived.Shelf.Bytes.SlEqualAll
import Derived.Lib.SlBytesConst
import Derived.Lib.SmallJoins
import Derived.StillTail
import Derived.Test.YtmkofejijkabnaaGreatDoorP1
import Derived.Test.YtmkofejijkabnaaGreatDoorP2
import Derived.Test.YtmkofejijkabnaaGreatDoorP3
/- THE WALK AT A MAP KEYED BY POINTERS; a folder: names and their files. -/
namespace Go.Proofs.YtmkofejijkabnaaGreatDoor
open Go.RowKit
theorem PMap.made (w : World) : PMap (w.alloc (.map #[] 0)) w.heap.size [] 0 := heap_alloc_new w _
section
variable {P : Program} {ops : Array Oper} {rest : List Oper} {a : Act} {w : World} {Q : Exit → Act → World → Prop} {tp T K V e : TypeId} {dst : Option Tmp} {m x v it : Operand} {pos : String} {after : Array Edge} {n : Nat}
theorem arm_rangeP (hT : P.underlying T = some (.map K V)) {b c : Nat} {L : List PEnt} (h : PMap w b L c) (hw : PWell L c) (hm : a.eval m = .map (some b))
    (k : ∀ w', RgP w' b w.heap.size L c L → Below w.heap.size w w' → w'.heap.size = w.heap.size + 1 → wpList P ops Q rest (a.put dst (.pointer (some ⟨w.heap.size, 0, none⟩))) w') :
    wpList P ops Q (⟨dst, .range T m, tp, pos, after, none⟩ :: rest) a w := by
  obtain ⟨hr, h1⟩ := run_rangeP hT h hw
  refine wpList_run rfl (w' := w.alloc (.mapIter (some b) c #[] c)) (u := .pointer (some ⟨w.heap.size, 0, none⟩)) ?_ (k _ h1 ((Below.refl _ _).alloc (Nat.le_refl _) _) (Array.size_push ..))
  simp [execOp, hm, hr, Result.andThen]
theorem arm_nextP {b r c : Nat} {L left : List PEnt} (h : RgP w b r L c left) (hit : a.eval it = .pointer (some ⟨r, 0, none⟩))
    (hD : left = [] → wpList P ops Q rest (a.put dst (.tuple #[.bool false])) w)
    (hM : ∀ x ∈ left, ∀ w', RgP w' b r L c (left.filter (fun y => y.born != x.born)) → Chg (fun j => j = r) w.heap.size w w' → w'.heap.size = w.heap.size →
      (Instr.entry (.pointer (some ⟨r, 0, none⟩))).run P w' = .ok (.tuple #[.pointer (some ⟨x.k, 0, none⟩), x.v]) w' → wpList P ops Q rest (a.put dst (.tuple #[.bool true, .pointer (some ⟨x.k, 0, none⟩), x.v])) w') :
    wpList P ops Q (⟨dst, .next it false, tp, pos, after, none⟩ :: rest) a w := by
  rcases h.next (P := P) tp with ⟨h0, hr⟩ | ⟨x, hx, w', hr, h3, h5, h6, h7⟩
  · refine wpList_run rfl (w' := w) (u := .tuple #[.bool false]) ?_ (hD h0)
    simp [execOp, hit, hr, Result.andThen]
  · refine wpList_run rfl (w' := w') (u := .tuple #[.bool true, .pointer (some ⟨x.k, 0, none⟩), x.v]) ?_ (hM x hx w' h3 h5 h6 h7)
    simp [execOp, hit, hr, Result.andThen]
theorem arm_putP (hT : P.underlying T = some (.map K V)) (hK : P.underlying K = some (.pointer e)) (hs : (P.info? e).map (·.size) = some (n + 1)) {b c k : Nat} {L : List PEnt} (h : PMap w b L c) (hk : Stand w k) (hl : ∀ x ∈ L, Stand w x.k) {u : Value} (hm : a.eval m = .map (some b)) (hx : a.eval x = .pointer (some ⟨k, 0, none⟩)) (hv : a.eval v = u)
    (K' : ∀ w', PMap w' b (putE L c k u) (putC L c k) → Chg (fun j => j = b) w.heap.size w w' → wpList P ops Q rest (a.put dst undef) w') :
    wpList P ops Q (⟨dst, .mapUpdate T m x v, tp, pos, after, none⟩ :: rest) a w := by
  have hr := run_putP (v := u) hT hK hs h hk hl
  refine wpList_skip rfl (w' := putM w b (putE L c k u) (putC L c k)) ?_ (K' _ (putM_in h) putM_chg)
  simp [execOp, hm, hx, hv, hr, Result.andThen]
theorem arm_insP (hT : P.underlying T = some (.map K V)) (hK : P.underlying K = some (.pointer e)) (hs : (P.info? e).map (·.size) = some (n + 1)) {b c k : Nat} {L : List PEnt} (h : PMap w b L c) (hk : Stand w k) (hl : ∀ x ∈ L, Stand w x.k) {u : Value} (hm : a.eval m = .map (some b)) (hx : a.eval x = .pointer (some ⟨k, 0, none⟩)) (hv : a.eval v = u)
    (K' : ∀ w', PMap w' b (putE L c k u) (putC L c k) → Chg (fun j => j = b) w.heap.size w w' → wpList P ops Q rest (a.put dst undef) w') :
    wpList P ops Q (⟨dst, .insert T m x v, tp, pos, after, none⟩ :: rest) a w := by
  have hr := run_putP (v := u) hT hK hs h hk hl
  refine wpList_skip rfl (w' := putM w b (putE L c k u) (putC L c k)) ?_ (K' _ (putM_in h) putM_chg)
  simp [execOp, hm, hx, hv, hr, Result.andThen]
end
/-- the keys that a map of pointers holds -/
def pKeys (L : List PEnt) : List Nat := L.map (·.k)
theorem findI_none (k : Nat) : ∀ (L : List PEnt) (i : Nat), findI k L i = none ↔ k ∉ pKeys L
  | [], i => by simp [findI, pKeys]
  | x :: r, i => by
    unfold findI
    by_cases e : k = x.k
    · simp [e, pKeys]
    · rw [if_neg e, findI_none k r (i + 1)]
      simp [pKeys, e]
theorem modify_keys (L : List PEnt) (i : Nat) (v : Value) : pKeys (L.modify i (fun x => { x with v := v })) = pKeys L := by
  unfold pKeys
  refine List.ext_getElem? fun j => ?_
  simp only [List.getElem?_map, List.getElem?_modify]
  cases hj : L[j]? with
  | none => simp
  | some y => by_cases e : i = j <;> simp [e]
theorem putE_keys (L : List PEnt) (c k : Nat) (v : Value) : pKeys (putE L c k v) = if k ∈ pKeys L then pKeys L else pKeys L ++ [k] := by
  unfold putE
  cases hf : findI k L 0 with
  | none =>
    rw [if_neg ((findI_none k L 0).1 hf)]
    simp [pKeys]
  | some y =>
    obtain ⟨i, u⟩ := y
    have hm : k ∈ pKeys L := by
      refine Classical.byContradiction fun h => ?_
      rw [(findI_none k L 0).2 h] at hf
      cases hf
    rw [if_pos hm]
    exact modify_keys L i v
theorem putE_nodup {L : List PEnt} {c k : Nat} {v : Value} (h : (pKeys L).Nodup) : (pKeys (putE L c k v)).Nodup := by
  rw [putE_keys]
  split
  · exact h
  · rename_i hn
    rw [List.nodup_append]
    exact ⟨h, by simp, fun a ha b hb e => hn (by obtain rfl : b = k := by simpa using hb
                                                 rw [← e]; exact ha)⟩
/-- a folder's names, with where their files stand -/
def folV (loc : Nat → Nat) (F : Fol) : List (Tx × Value) := F.map fun x => (x.1, .pointer (some ⟨loc x.2, 0, none⟩))
theorem folV_look (loc : Nat → Nat) (F : Fol) (p : Tx) : SM.look (folV loc F) p = (SM.look F p).map fun f => .pointer (some ⟨loc f, 0, none⟩) := by
  unfold SM.look folV
  rw [List.find?_map]
  cases hf : F.find? ((fun x : Tx × Value => x.1 == p) ∘ fun x => (x.1, .pointer (some ⟨loc x.2, 0, none⟩))) with
  | none =>
    have : F.find? (fun x => x.1 == p) = none := hf
    rw [this]; rfl
  | some y =>
    have : F.find? (fun x => x.1 == p) = some y := hf
    rw [this]; rfl
theorem folV_del (loc : Nat → Nat) (F : Fol) (p : Tx) : folV loc (delF F p) = (folV loc F).filter (fun x => x.1 != p) := by
  unfold folV delF
  rw [List.filter_map]; rfl
theorem folV_put (loc : Nat → Nat) (F : Fol) (p : Tx) (f : Nat) : folV loc (SM.put F (p, f)) = SM.put (folV loc F) (p, .pointer (some ⟨loc f, 0, none⟩)) := by
  unfold folV SM.put SM.lo SM.hi
  rw [List.map_append, List.map_cons, List.filter_map, List.filter_map]; rfl
theorem folV_srt {loc : Nat → Nat} {F : Fol} : SM.Srt (folV loc F) ↔ SM.Srt F := by
  unfold SM.Srt folV
  rw [List.pairwise_map]
theorem folV_len (loc : Nat → Nat) (F : Fol) : (folV loc F).length = F.length := by simp [folV]
/-- a folder in memory -/
def FolIn (w : World) (k : TypeId) (b : Nat) (loc : Nat → Nat) (F : Fol) : Prop := MapS w k b (folV loc F)
theorem FolIn.lt {w : World} {k : TypeId} {b : Nat} {loc : Nat → Nat} {F : Fol} (h : FolIn w k b loc F) : b < w.heap.size := MapS.lt h
theorem FolIn.loc {w w' : World} {k : TypeId} {b : Nat} {loc : Nat → Nat} {F : Fol} (h : FolIn w k b loc F) (hb : w'.heap[b]? = w.heap[b]?) : FolIn w' k b loc F := MapS.loc h hb
theorem FolIn.srt {w : World} {k : TypeId} {b : Nat} {loc : Nat → Nat} {F : Fol} (h : FolIn w k b loc F) : SM.Srt F := folV_srt.1 h.s
theorem FolIn.names {w : World} {k : TypeId} {b : Nat} {loc : Nat → Nat} {F : Fol} (h : FolIn w k b loc F) : ∀ x ∈ F, x.1.length ≤ maxLen := fun x hx => h.l _ (List.mem_map.2 ⟨x, hx, rfl⟩)
theorem FolIn.same {w : World} {k : TypeId} {b : Nat} {loc loc' : Nat → Nat} {F : Fol} (h : FolIn w k b loc F) (he : ∀ x ∈ F, loc x.2 = loc' x.2) : FolIn w k b loc' F := by
  have : folV loc F = folV loc' F := List.map_congr_left fun x hx => by rw [he x hx]
  unfold FolIn
  rw [← this]; exact h
end Go.Proofs.YtmkofejijkabnaaGreatDoor
/- A DISK IN MEMORY: its variable, the folders, the files, the deeds; the blocks are told apart by tags. -/
namespace Go.Proofs.YtmkofejijkabnaaGreatDoor
open Go.RowKit
/-- which part of a disk a block is: 0 its variable, 1 the folder, 2 what is settled, 3 the deeds' row, 4 + 2 k file k, 5 + 2 k its bytes; none: no part -/
abbrev Own := Nat → Option Nat
structure FileAt (w : World) (ow : Own) (b k : Nat) (v : Value) (f : FileS) : Prop where
  row : Row w b 84 #[.int .i64 (k : Int), v, .int .i64 (f.safe : Int)]
  own : Owns w 0 5 v f.bytes
  t : ow b = some (4 + 2 * k)
  tv : ∀ j, v.ownBlock = some j → ow j = some (5 + 2 * k)
theorem FileAt.loc {w w' : World} {ow : Own} {b k : Nat} {v : Value} {f : FileS} (h : FileAt w ow b k v f) (hb : ∀ j, ow j = some (4 + 2 * k) ∨ ow j = some (5 + 2 * k) → w'.heap[j]? = w.heap[j]?) : FileAt w' ow b k v f :=
  ⟨by unfold Row; rw [hb b (.inl h.t)]; exact h.row, ownsRow_loc _ _ (fun j e => hb j (.inr (h.tv j e))) h.own, h.t, h.tv⟩
/-- a box that is no part of the disk -/
def BoxAt (w : World) (ow : Own) (b : Nat) (v : Value) : Prop := w.cell? ⟨b, 0, none⟩ = some v ∧ ow b = none
theorem BoxAt.lt {w : World} {ow : Own} {b : Nat} {v : Value} (h : BoxAt w ow b v) : b < w.heap.size := World.block_lt_of_cell? w _ h.1
theorem BoxAt.on {w w' : World} {ow : Own} {b : Nat} {v : Value} (h : BoxAt w ow b v) (hb : Chg (fun j => (ow j).isSome = true) w.heap.size w w') : BoxAt w' ow b v :=
  ⟨by rw [hb.cell (p := ⟨b, 0, none⟩) h.lt (by rw [h.2]; decide)]; exact h.1, h.2⟩
/-- a deed as a func value -/
def DeedV (w : World) (ow : Own) (D : Nat) (loc : Nat → Nat) (v : Value) : DeedS → Prop
  | .create n f => ∃ b1 b2 b3, v = .func (.func 125) #[] #[.pointer (some ⟨b1, 0, none⟩), .pointer (some ⟨b2, 0, none⟩), .pointer (some ⟨b3, 0, none⟩)] ∧ BoxAt w ow b1 (.pointer (some ⟨loc f, 0, none⟩)) ∧ BoxAt w ow b2 (.string ⟨n.toArray⟩) ∧ BoxAt w ow b3 (.pointer (some ⟨D, 0, none⟩))
  | .rename a b => ∃ b1 b2, v = .func (.func 134) #[] #[.pointer (some ⟨b1, 0, none⟩), .pointer (some ⟨b2, 0, none⟩)] ∧ BoxAt w ow b1 (.string ⟨a.toArray⟩) ∧ BoxAt w ow b2 (.string ⟨b.toArray⟩)
  | .remove a => ∃ b1, v = .func (.func 158) #[] #[.pointer (some ⟨b1, 0, none⟩)] ∧ BoxAt w ow b1 (.string ⟨a.toArray⟩)
  | .becomes _ => False
theorem DeedV.on {w w' : World} {ow : Own} {D : Nat} {loc : Nat → Nat} {v : Value} (hb : Chg (fun j => (ow j).isSome = true) w.heap.size w w') : ∀ {x : DeedS}, DeedV w ow D loc v x → DeedV w' ow D loc v x
  | .create _ _, ⟨b1, b2, b3, h1, h2, h3, h4⟩ => ⟨b1, b2, b3, h1, h2.on hb, h3.on hb, h4.on hb⟩
  | .rename _ _, ⟨b1, b2, h1, h2, h3⟩ => ⟨b1, b2, h1, h2.on hb, h3.on hb⟩
  | .remove _, ⟨b1, h1, h2⟩ => ⟨b1, h1, h2.on hb⟩
  | .becomes _, h => h.elim
def dkC (nb sb : Nat) (vd : Value) (d : DkS) : Array Value := #[.map (some nb), .map (some sb), vd, .int .i64 (d.many : Int), .int .i64 d.quota, .bool d.off, .int .i64 d.fuse, .bool d.done]
structure DkIn (w : World) (ow : Own) (D nb sb : Nat) (loc : Nat → Nat) (bv : Nat → Value) (vd : Value) (dl : List Value) (d : DkS) : Prop where
  row : Row w D 108 (dkC nb sb vd d)
  now : FolIn w 9 nb loc d.now
  set : FolIn w 9 sb loc d.settled
  file : ∀ k, k < d.many → FileAt w ow (loc k) k (bv k) (d.files k)
  dds : w.ownsRow 0 116 1 vd d.deeds.length dl
  deed : ∀ (i : Nat) (x : DeedS) (v : Value), d.deeds[i]? = some x → dl[i]? = some v → DeedV w ow D loc v x
  tD : ow D = some 0
  tn : ow nb = some 1
  ts : ow sb = some 2
  td : ∀ j, vd.ownBlock = some j → ow j = some 3
  num : ∀ x, x ∈ d.now ∨ x ∈ d.settled → x.2 < d.many
  lt : ∀ j, (ow j).isSome = true → j < w.heap.size
  dn : ∀ n f, DeedS.create n f ∈ d.deeds → f < d.many
theorem DkIn.loc {w w' : World} {ow : Own} {D nb sb : Nat} {l : Nat → Nat} {bv : Nat → Value} {vd : Value} {dl : List Value} {d : DkS} (h : DkIn w ow D nb sb l bv vd dl d) (hb : Chg (fun j => (ow j).isSome = true) w.heap.size w w') (hs : ∀ j, (ow j).isSome = true → w'.heap[j]? = w.heap[j]?) : DkIn w' ow D nb sb l bv vd dl d :=
  ⟨by unfold Row; rw [hs D (by rw [h.tD]; rfl)]; exact h.row, h.now.loc (hs nb (by rw [h.tn]; rfl)), h.set.loc (hs sb (by rw [h.ts]; rfl)),
    fun k hk => (h.file k hk).loc (fun j hj => hs j (by rcases hj with e | e <;> rw [e] <;> rfl)),
    ownsRow_loc _ _ (fun j e => hs j (by rw [h.td j e]; rfl)) h.dds, fun i x v h1 h2 => (h.deed i x v h1 h2).on hb, h.tD, h.tn, h.ts, h.td, h.num, fun j hj => Nat.lt_of_lt_of_le (h.lt j hj) hb.size, h.dn⟩
theorem DkIn.on {w w' : World} {ow : Own} {D nb sb : Nat} {l : Nat → Nat} {bv : Nat → Value} {vd : Value} {dl : List Value} {d : DkS} (h : DkIn w ow D nb sb l bv vd dl d) (hb : Below w.heap.size w w') : DkIn w' ow D nb sb l bv vd dl d :=
  h.loc (Chg.of_below hb) (fun j hj => hb.block j (h.lt j hj))
end Go.Proofs.YtmkofejijkabnaaGreatDoor
/- disk.New, none. -/
namespace Go.Proofs.YtmkofejijkabnaaGreatDoor
open Go.RowKit
set_option maxHeartbeats 1000000 in
set_option maxRecDepth 100000 in
theorem dknone_any (D nb : Nat) (w : World) (c0 : w.cell? ⟨D, 0, none⟩ = some (.map (some nb))) : Calls Tryz.prog 55 #[.pointer (some ⟨D, 0, none⟩)] w fun e w' => e = .returned (.bool false) ∧ w' = w := by
  have hmn : ∀ w, (Go.binOp .eql 105 (.map (some nb)) (.map none)).run Tryz.prog w = .ok (.bool false) w := fun w => by kernel_rfl
  go_enter Tryz.func55, Tryz.ntmps55
  go_wp2_with fail
  go_ret
  exact ⟨rfl, rfl⟩
theorem mk_folder (w : World) : (Instr.makeMap 105 none).run Tryz.prog w = .ok (.map (some w.heap.size)) (w.alloc (.map #[] 0)) := by kernel_rfl
theorem build_dk (n s : Nat) (q : Int) (w : World) : (Instr.build 108 #[(0, .map (some n)), (1, .map (some s)), (4, .int .i64 q), (6, .int .i64 (-1))]).run Tryz.prog w = .ok (.agg #[.map (some n), .map (some s), .slice none 0 0, .int .i64 0, .int .i64 q, .bool false, .int .i64 (-1), .bool false]) w := by kernel_rfl
set_option maxHeartbeats 1000000 in
set_option maxRecDepth 100000 in
theorem dknew_any (q : Int) (h0 : 0 ≤ q) (h1 : q ≤ 268435456) (w : World) : Calls Tryz.prog 22 #[.int .i64 q] w fun e w' => ∃ D nb sb ow loc bv, e = .returned (.tuple #[.pointer (some ⟨D, 0, none⟩), .int .i64 0]) ∧ DkIn w' ow D nb sb loc bv (.slice none 0 0) [] (newDk q) ∧ (∀ j, (ow j).isSome = true → w.heap.size ≤ j) ∧ Below w.heap.size w w' := by
  have hmk := mk_folder
  have hbd := build_dk
  have hd0 : decide (q < 0) = false := decide_eq_false (by omega)
  have hd1 : decide (268435456 < q) = false := decide_eq_false (by omega)
  go_enter Tryz.func22, Tryz.ntmps22
  go_wp2_with fail
  go_ret2
  obtain ⟨w1, hw1⟩ : ∃ x, x = w.alloc (.map #[] 0) := ⟨_, rfl⟩
  obtain ⟨w2, hw2⟩ : ∃ x, x = w1.alloc (.map #[] 0) := ⟨_, rfl⟩
  have s1 : w1.heap.size = w.heap.size + 1 := by rw [hw1]; exact Array.size_push ..
  have s2 : w2.heap.size = w1.heap.size + 1 := by rw [hw2]; exact Array.size_push ..
  have b1 : Below w.heap.size w w1 := by rw [hw1]; exact (Below.refl _ _).alloc (Nat.le_refl _) _
  have b2 : Below w1.heap.size w1 w2 := by rw [hw2]; exact (Below.refl _ _).alloc (Nat.le_refl _) _
  obtain ⟨w3, hw3⟩ : ∃ x, x = w2.alloc (.cells (dkC w.heap.size w1.heap.size (.slice none 0 0) (newDk q)) 108) := ⟨_, rfl⟩
  have s3 : w3.heap.size = w2.heap.size + 1 := by rw [hw3]; exact Array.size_push ..
  have b3 : Below w2.heap.size w2 w3 := by rw [hw3]; exact (Below.refl _ _).alloc (Nat.le_refl _) _
  have hm1 : MapS w1 9 w.heap.size [] := by rw [hw1]; exact MapS.made w
  have hm2 : MapS w2 9 w1.heap.size [] := by rw [hw2]; exact MapS.made w1
  have hr : Row w3 w2.heap.size 108 (dkC w.heap.size w1.heap.size (.slice none 0 0) (newDk q)) := by rw [hw3]; exact Row.new _ _ _
  have hwe : ((w.alloc (.map #[] 0)).alloc (.map #[] 0)).alloc (.cells #[.map (some w.heap.size), .map (some (w.heap.size + 1)), .slice none 0 0, .int .i64 0, .int .i64 q, .bool false, .int .i64 (-1), .bool false] 108) = w3 := by
    rw [hw3, s1, hw2, hw1]; rfl
  rw [hwe]
  clear hwe
  refine ⟨w2.heap.size, w.heap.size, w1.heap.size, fun j => if j = w2.heap.size then some 0 else if j = w.heap.size then some 1 else if j = w1.heap.size then some 2 else none, fun _ => 0, fun _ => .slice none 0 0, ?_, ?_, ?_, ?_⟩
  · rw [s2, s1]; rfl
  · have hne1 : w2.heap.size ≠ w.heap.size := by omega
    have hne2 : w1.heap.size ≠ w.heap.size := by omega
    have hne3 : w1.heap.size ≠ w2.heap.size := by omega
    refine ⟨hr, ?_, ?_, fun k hk => absurd hk (Nat.not_lt_zero k), World.ownsRow_nil _ _ _ _, fun i x v hx _ => by simp [newDk] at hx, if_pos rfl, ?_, ?_, (fun j hj => nomatch hj), fun x hx => by simp [newDk, DkS.now] at hx, fun j hj => ?_, fun n f hf => by simp [newDk] at hf⟩
    · exact (hm1.loc (b2.block _ (by omega))).loc (b3.block _ (by omega))
    · exact hm2.loc (b3.block _ (by omega))
    · show (if w.heap.size = w2.heap.size then _ else _) = _
      rw [if_neg (Ne.symm hne1), if_pos rfl]
    · show (if w1.heap.size = w2.heap.size then _ else _) = _
      rw [if_neg hne3, if_neg hne2, if_pos rfl]
    · try simp only at hj
      split at hj
      · omega
      · split at hj
        · omega
        · split at hj
          · omega
          · cases hj
  · intro j hj
    try simp only at hj
    split at hj
    · omega
    · split at hj
      · omega
      · split at hj
        · omega
        · cases hj
  · exact (b1.trans (b2.mono (by omega))).trans (b3.mono (by omega))
end Go.Proofs.YtmkofejijkabnaaGreatDoor
/- (*Disk).step while the fuse holds: what it does is done. -/
namespace Go.Proofs.YtmkofejijkabnaaGreatDoor
open Go.RowKit
set_option maxHeartbeats 1000000 in
set_option maxRecDepth 100000 in
theorem dkstep_on (D g : Nat) (caps : Array Value) (w : World) (c : Array Value) (fz : Int) (hz : fz ≠ 0) (lo : -9223372036854775807 ≤ fz) (hi : fz ≤ 9223372036854775807) (hrow : Row w D 108 c) (h6 : c[6]? = some (.int .i64 fz)) (hent : ∀ args w, (callFunc g args).run Tryz.prog w = .ok (.enter g args) w) (Q : World → Prop)
    (hdo : Calls Tryz.prog g caps (w.setCell ⟨D, 6, none⟩ (.int .i64 (max (fz - 1) (-1)))) fun e w' => e = .returned (.tuple #[]) ∧ Q w') :
    Calls Tryz.prog 62 #[.pointer (some ⟨D, 0, none⟩), .func (.func g) #[] caps] w fun e w' => e = .returned (.int .i64 0) ∧ Q w' := by
  have c6 := hrow.cell h6
  have f6 := hrow.frozen 6
  have hz1 : (fz == 0) = false := by rw [beq_eq_false_iff_ne]; exact hz
  have hz2 : (fz != 0) = true := by rw [bne, hz1]; rfl
  have HDO := Keep.keep hdo
  have hmx : max (fz - 1) (-1) = if fz - 1 ≤ -1 then -1 else fz - 1 := by omega
  obtain ⟨m, hm⟩ : ∃ m, max (fz - 1) (-1) = m := ⟨_, rfl⟩
  rw [hm] at HDO
  clear hdo hrow h6
  go_enter Tryz.func62, Tryz.ntmps62
  rcases (by omega : m = -1 ∧ fz - 1 ≤ -1 ∨ m = fz - 1 ∧ -1 < fz - 1) with ⟨rfl, hle⟩ | ⟨rfl, hle⟩
  · clear hmx
    go_wp2_with fail
    refine HDO.out.mono ?_
    rintro e w1 ⟨rfl, hq⟩
    have HQ := Keep.keep hq
    clear hq HDO c6 f6
    go_wp2_with fail
    go_ret
    exact ⟨rfl, HQ.out⟩
  · clear hmx
    go_wp2_with fail
    refine HDO.out.mono ?_
    rintro e w1 ⟨rfl, hq⟩
    have HQ := Keep.keep hq
    clear hq HDO c6 f6
    go_wp2_with fail
    go_ret
    exact ⟨rfl, HQ.out⟩
end Go.Proofs.YtmkofejijkabnaaGreatDoor
/- The deeds of a folder: what Remove's and Rename's closures do. -/
namespace Go.Proofs.YtmkofejijkabnaaGreatDoor
open Go.RowKit
theorem FolIn.del {w' : World} {k : TypeId} {b : Nat} {loc : Nat → Nat} {F : Fol} {p : Tx} (h : MapS w' k b ((folV loc F).filter (fun x => x.1 != p))) : FolIn w' k b loc (delF F p) := by
  unfold FolIn
  rw [folV_del]
  exact h
set_option maxHeartbeats 1000000 in
set_option maxRecDepth 100000 in
theorem remove1_any (b nb : Nat) (loc : Nat → Nat) (F : Fol) (p : Tx) (hp : p.length ≤ 1000000) (w : World) (hF : FolIn w 9 nb loc F) (hbx : w.cell? ⟨b, 0, none⟩ = some (.string ⟨p.toArray⟩)) :
    Calls Tryz.prog 158 #[.map (some nb), .pointer (some ⟨b, 0, none⟩)] w fun e w' => e = .returned (.tuple #[]) ∧ FolIn w' 9 nb loc (delF F p) ∧ Chg (fun j => j = nb) w.heap.size w w' := by
  have HF := Keep.keep hF
  clear hF
  go_enter Tryz.func158, Tryz.ntmps158
  go_wp2_with (first | (with_reducible refine arm_sRange ?_) | (with_reducible refine arm_sNext ?_) | (with_reducible refine arm_sDel ?_) | (with_reducible refine arm_sPut ?_) | (with_reducible refine arm_sIns ?_))
  refine StM.out ?_
  refine arm_delS Tryz.underlying9 Tryz.underlying105 HF.out (p := p) (by unfold maxLen; omega) rfl rfl ?_
  intro w1 h1 hc
  have H1 := Keep.keep h1; have HC := Keep.keep hc
  clear h1 hc hbx
  simp only [Act.put]
  go_wp2_with fail
  refine bodyPost_end (results_none rfl _ _ _) rfl ?_
  exact ⟨rfl, FolIn.del H1.out, HC.out⟩
theorem zero_file (w : World) : (zeroValue 80).run Tryz.prog w = .ok (.pointer none) w := by kernel_rfl
theorem FolIn.put {w' : World} {k : TypeId} {b : Nat} {loc : Nat → Nat} {F : Fol} {p : Tx} {f : Nat} (h : MapS w' k b (SM.put (folV loc F) (p, .pointer (some ⟨loc f, 0, none⟩)))) : FolIn w' k b loc (SM.put F (p, f)) := by
  unfold FolIn
  rw [folV_put]
  exact h
set_option maxHeartbeats 1000000 in
set_option maxRecDepth 100000 in
theorem rename1_any (b1 b2 nb : Nat) (loc : Nat → Nat) (F : Fol) (p q : Tx) (f : Nat) (hp : p.length ≤ 1000000) (hq : q.length ≤ 1000000) (hl : F.length ≤ 100000) (hf : SM.look F p = some f) (w : World) (hF : FolIn w 9 nb loc F) (h1 : w.cell? ⟨b1, 0, none⟩ = some (.string ⟨p.toArray⟩)) (h2 : w.cell? ⟨b2, 0, none⟩ = some (.string ⟨q.toArray⟩)) (hn2 : b2 ≠ nb) :
    Calls Tryz.prog 134 #[.map (some nb), .pointer (some ⟨b1, 0, none⟩), .pointer (some ⟨b2, 0, none⟩)] w fun e w' => e = .returned (.tuple #[]) ∧ FolIn w' 9 nb loc (doD F (.rename p q)) ∧ Chg (fun j => j = nb) w.heap.size w w' := by
  have hlk : (Instr.lookup 105 (.map (some nb)) (.string ⟨p.toArray⟩) false).run Tryz.prog w = .ok (.pointer (some ⟨loc f, 0, none⟩)) w := by
    have h := MapS.look1 Tryz.underlying9 Tryz.underlying105 hF (zero_file w) (p := p) (by unfold maxLen; omega)
    rw [folV_look, hf] at h
    exact h
  have HDO : Keep (doD F (.rename p q) = SM.put (delF F p) (q, f)) := ⟨by
    show (match SM.look F p with | some f => SM.put (delF F p) (q, f) | none => F) = _
    rw [hf]⟩
  rw [HDO.out]
  have HF := Keep.keep hF
  have H2 : Keep (∀ w', Chg (fun j => j = nb) w.heap.size w w' → w'.cell? ⟨b2, 0, none⟩ = some (.string ⟨q.toArray⟩)) := ⟨fun w' hc => by rw [hc.cell (p := ⟨b2, 0, none⟩) (World.block_lt_of_cell? w _ h2) hn2]; exact h2⟩
  have HLD : Keep ((delF F p).length ≤ 100000) := ⟨Nat.le_trans (List.length_filter_le _ _) hl⟩
  clear hF h2 hf
  go_enter Tryz.func134, Tryz.ntmps134
  go_wp2_with (first | (with_reducible refine arm_sRange ?_) | (with_reducible refine arm_sNext ?_) | (with_reducible refine arm_sDel ?_) | (with_reducible refine arm_sPut ?_) | (with_reducible refine arm_sIns ?_))
  refine StM.out ?_
  refine arm_delS Tryz.underlying9 Tryz.underlying105 HF.out (p := p) (by unfold maxLen; omega) rfl rfl ?_
  intro w1 h1' hc
  have HM : Keep (MapS w1 9 nb (folV loc (delF F p))) := ⟨FolIn.del h1'⟩
  have HC := Keep.keep hc
  have c2 := H2.out w1 hc
  clear h1' hc h1 hlk
  simp only [Act.put]
  go_wp2_with (first | (with_reducible refine arm_sRange ?_) | (with_reducible refine arm_sNext ?_) | (with_reducible refine arm_sDel ?_) | (with_reducible refine arm_sPut ?_) | (with_reducible refine arm_sIns ?_))
  refine StM.out ?_
  refine arm_putS Tryz.underlying9 Tryz.underlying105 HM.out (p := q) (u := .pointer (some ⟨loc f, 0, none⟩)) (by unfold maxLen; omega) (by rw [folV_len]; unfold maxLen; have := HLD.out; omega) rfl rfl rfl ?_
  intro w2 h2' hc2
  have HM2 : Keep (FolIn w2 9 nb loc (SM.put (delF F p) (q, f))) := ⟨FolIn.put h2'⟩
  have HC2 := Keep.keep (HC.out.trans (hc2.lower HC.out.size))
  clear h2' hc2 c2
  simp only [Act.put]
  go_wp2_with fail
  refine bodyPost_end (results_none rfl _ _ _) rfl ?_
  exact ⟨rfl, HM2.out, HC2.out⟩
end Go.Proofs.YtmkofejijkabnaaGreatDoor
/- (*Disk).Used: the bytes of all files that the folder names. -/
namespace Go.Proofs.YtmkofejijkabnaaGreatDoor
open Go.RowKit
def sumF (fs : Nat → FileS) (F : Fol) (todo : Tx → Bool) : Nat := ((F.filter fun x => !todo x.1).map fun x => (fs x.2).bytes.length).sum
theorem sumF_step {fs : Nat → FileS} {F : Fol} (h : SM.Srt F) {todo : Tx → Bool} {p : Tx} {f : Nat} (hp : todo p = true) (hl : SM.look F p = some f) : sumF fs F (fun q => todo q && q != p) = sumF fs F todo + (fs f).bytes.length := by
  have h1 := (came_step h hp hl).map fun x => (fs x.2).bytes.length
  unfold sumF
  rw [h1.sum_nat]
  simp
theorem sumF_le (fs : Nat → FileS) (todo : Tx → Bool) : ∀ F : Fol, sumF fs F todo ≤ (F.map fun x => (fs x.2).bytes.length).sum
  | [] => Nat.le_refl _
  | x :: F => by
    have ih := sumF_le fs todo F
    unfold sumF at ih ⊢
    rw [List.filter_cons, List.map_cons, List.sum_cons]
    split
    · rw [List.map_cons, List.sum_cons]; omega
    · omega
set_option maxHeartbeats 2000000 in
set_option maxRecDepth 100000 in
theorem dkused_any {w : World} {ow : Own} {D nb sb : Nat} {loc : Nat → Nat} {bv : Nat → Value} {vd : Value} {dl : List Value} {d : DkS} (h : DkIn w ow D nb sb loc bv vd dl d) (hq : d.used ≤ 1000000000) :
    Calls Tryz.prog 25 #[.pointer (some ⟨D, 0, none⟩)] w fun e w' => e = .returned (.int .i64 (d.used : Int)) ∧ Below w.heap.size w w' := by
  have HON : Keep (∀ wx, Below w.heap.size w wx → DkIn wx ow D nb sb loc bv vd dl d) := ⟨fun wx hb => h.on hb⟩
  have c0 : w.cell? ⟨D, 0, none⟩ = some (.map (some nb)) := h.row.cell rfl
  have HNB : Keep (nb < w.heap.size) := ⟨h.now.lt⟩
  have HU : Keep (d.used = sumF d.files d.now (fun _ => false)) := ⟨by unfold DkS.used sumF; rw [show (d.now.filter fun x => !(fun _ : Tx => false) x.1) = d.now from List.filter_eq_self.2 (fun x _ => rfl)]⟩
  have HQ := Keep.keep hq
  have HNO := Keep.keep (dknone_any D nb w c0)
  clear h hq
  go_enter Tryz.func25, Tryz.ntmps25
  go_wp2_with fail
  refine HNO.out.mono ?_
  rintro e w0 ⟨rfl, rfl⟩
  go_wp2_with (first | (with_reducible refine arm_sRange ?_) | (with_reducible refine arm_sNext ?_) | (with_reducible refine arm_sDel ?_) | (with_reducible refine arm_sPut ?_) | (with_reducible refine arm_sIns ?_))
  refine StM.out ?_
  refine arm_rangeS Tryz.underlying9 Tryz.underlying105 (HON.out _ (Below.refl _ _)).now rfl ?_
  intro w3 hrg hb3 hs3
  obtain ⟨r, hr⟩ : ∃ r, w0.heap.size = r := ⟨_, rfl⟩
  have HB3 := Keep.keep hb3
  have HR := Keep.keep hr
  rw [hr] at hrg ⊢
  have HRG := Keep.keep hrg
  clear hrg hb3 hs3 hr c0 HNO
  simp only [Act.put, List.setIfInBounds_toArray, List.set_cons_succ, List.set_cons_zero]
  go_wp2_with fail
  go_loopg [3] (folV loc d.now).length (fun g u3 wx => ∃ (todo : Tx → Bool), RgS wx 9 nb r (folV loc d.now) todo g ∧ u3 = .int .i64 (sumF d.files d.now todo : Int) ∧ sumF d.files d.now todo ≤ 1000000000 ∧ Below w0.heap.size w0 wx)
  case atStart =>
    have h0 : sumF d.files d.now (fun p => (SM.look (folV loc d.now) p).isSome) = 0 := by
      unfold sumF
      have : (d.now.filter fun x => !(SM.look (folV loc d.now) x.1).isSome) = [] := by
        have := came_start d.now
        rw [← this]
        refine List.filter_congr fun x _ => ?_
        rw [folV_look, Option.isSome_map]
      rw [this]; rfl
    exact ⟨_, HRG.out, by rw [h0]; rfl, by rw [h0]; decide, HB3.out⟩
  case round =>
    obtain ⟨todo, hrg, rfl, hle, hb⟩ := hrel
    have HRG2 := Keep.keep hrg; have HB := Keep.keep hb
    clear hrg hb HRG HB3
    go_wp2_with (first | (with_reducible refine arm_sRange ?_) | (with_reducible refine arm_sNext ?_) | (with_reducible refine arm_sDel ?_) | (with_reducible refine arm_sPut ?_) | (with_reducible refine arm_sIns ?_))
    refine StM.out ?_
    refine arm_nextS Tryz.underlying9 HRG2.out rfl ?_ ?_
    · intro h0 hall
      have HS : Keep (sumF d.files d.now todo = d.used) := ⟨by
        rw [HU.out]
        unfold sumF
        congr 2
        refine List.filter_congr fun x _ => ?_
        rw [hall]⟩
      clear h0 hall
      generalize sumF d.files d.now todo = s0 at *
      simp only [Act.put, List.setIfInBounds_toArray, List.set_cons_succ, List.set_cons_zero]
      go_wp2_with fail
      go_ret
      exact ⟨by rw [← HS.out]; rfl, HB.out⟩
    · intro p v w4 cnt' h1 h2 h3 h4 h5 h6 hen
      have HB4 : Keep (Below w0.heap.size w0 w4) := ⟨HB.out.trans ((h5.lower HB.out.size).below (fun k hk e => by have := HR.out; omega))⟩
      have hdk := HON.out w4 HB4.out
      obtain ⟨f, hf, hve⟩ : ∃ f, SM.look d.now p = some f ∧ v = .pointer (some ⟨loc f, 0, none⟩) := by
        rw [folV_look] at h2
        cases hl : SM.look d.now p with
        | none => rw [hl] at h2; cases h2
        | some f => rw [hl] at h2; injection h2 with h2; exact ⟨f, rfl, h2.symm⟩
      have HST := Keep.keep (sumF_step (fs := d.files) hdk.now.srt h1 hf)
      have HLE : Keep (sumF d.files d.now (fun q => todo q && q != p) ≤ 1000000000) := ⟨Nat.le_trans (sumF_le _ _ _) HQ.out⟩
      have hfa := hdk.file f (hdk.num (p, f) (.inl (SM.look_mem hf)))
      obtain ⟨va, vc, hv, -⟩ := (ownsV_reads hfa.own).shape
      have c1 := hfa.row.cell (i := 1) rfl
      rw [hv] at c1
      have HRG4 := Keep.keep h3
      clear h1 h2 h3 h5 h6 HRG2 hdk hf hfa hv hle
      subst hve
      have hs2 : sumF d.files d.now todo + (d.files f).bytes.length ≤ 1000000000 := by rw [← HST.out]; exact HLE.out
      generalize (d.files f).bytes.length = bl at *
      generalize sumF d.files d.now todo = s0 at *
      simp only [Act.put, List.setIfInBounds_toArray, List.set_cons_succ, List.set_cons_zero]
      go_wp2_with fail
      go_roundg cnt'
      case measure => exact h4
      case rel => exact ⟨_, HRG4.out, by rw [HST.out]; rfl, HLE.out, HB4.out⟩
end Go.Proofs.YtmkofejijkabnaaGreatDoor
/- (*Disk).asks, find: MayName's contract is handed in. -/
namespace Go.Proofs.YtmkofejijkabnaaGreatDoor
open Go.RowKit
/-- MayName answers as the document says -/
def MayOk : Prop := ∀ (s : Tx) (w : World), s.length ≤ 1000000 → Calls Tryz.prog 95 #[.string ⟨s.toArray⟩] w fun e w' => e = .returned (.bool (nameP s)) ∧ Below w.heap.size w w'
theorem ent_asks1 : ∀ args w, (callFunc 103 args).run Tryz.prog w = .ok (.enter 103 args) w := enters_of Tryz.func103 (by kernel_rfl) rfl
set_option maxHeartbeats 1000000 in
set_option maxRecDepth 100000 in
theorem asks1_any (hm : MayOk) (s : Tx) (hs : s.length ≤ 1000000) (w : World) : Calls Tryz.prog 103 #[.string ⟨s.toArray⟩] w fun e w' => e = .returned (.bool (!nameP s)) ∧ Below w.heap.size w w' := by
  have HM := Keep.keep (hm s w hs)
  generalize nameP s = b at *
  clear hm
  go_enter Tryz.func103, Tryz.ntmps103
  go_wp2_with fail
  refine HM.out.mono ?_
  rintro e w1 ⟨rfl, hb⟩
  have HB := Keep.keep hb
  clear hb HM
  go_wp2_with fail
  go_ret
  exact ⟨rfl, HB.out⟩
set_option maxHeartbeats 1000000 in
set_option maxRecDepth 100000 in
theorem dkasks_any (hm : MayOk) {w : World} {ow : Own} {D nb sb : Nat} {loc : Nat → Nat} {bv : Nat → Value} {vd : Value} {dl : List Value} {d : DkS} (h : DkIn w ow D nb sb loc bv vd dl d) (v : Value) (names : List Tx) (hr : RdS w (· < w.heap.size) v names) (hs : ∀ s ∈ names, s.length ≤ 1000000) :
    Calls Tryz.prog 56 #[.pointer (some ⟨D, 0, none⟩), v] w fun e w' => e = .returned (.int .i64 (d.asks names)) ∧ Below w.heap.size w w' := by
  have c0 : w.cell? ⟨D, 0, none⟩ = some (.map (some nb)) := h.row.cell rfl
  have c5 : w.cell? ⟨D, 5, none⟩ = some (.bool d.off) := h.row.cell rfl
  have HNO := Keep.keep (dknone_any D nb w c0)
  have HCF := Keep.keep (cfunc_any 103 (fun s => !nameP s) v names w ent_asks1 (fun x hx wx => asks1_any hm x (hs x hx) wx) hr)
  have HA : Keep (d.asks names = if d.off then 25 else if names.any (fun s => !nameP s) then 1 else 0) := ⟨rfl⟩
  obtain ⟨a, cap, hv, -, -, -⟩ := hr.shape
  generalize d.asks names = r at *
  generalize d.off = off at *
  generalize (names.any fun s => !nameP s) = an at *
  clear h hm hr hs
  subst hv
  go_enter Tryz.func56, Tryz.ntmps56
  go_wp2_with fail
  refine HNO.out.mono ?_
  rintro e w0 ⟨rfl, rfl⟩
  clear HNO
  cases off with
  | true =>
    go_wp2_with fail
    go_ret
    exact ⟨by rw [HA.out]; rfl, Below.refl _ _⟩
  | false =>
    go_wp2_with fail
    refine HCF.out.mono ?_
    rintro e w1 ⟨rfl, hb⟩
    have HB := Keep.keep hb
    clear hb HCF
    cases an with
    | true =>
      go_wp2_with fail
      go_ret
      exact ⟨by rw [HA.out]; rfl, HB.out⟩
    | false =>
      go_wp2_with fail
      go_ret
      exact ⟨by rw [HA.out]; rfl, HB.out⟩
end Go.Proofs.YtmkofejijkabnaaGreatDoor
/- disk.MayName, for any text. -/
namespace Go.Proofs.YtmkofejijkabnaaGreatDoor
open Go.RowKit
theorem crune_any (x : Nat) (hx : x ≤ 1114111) (w : World) : Calls Tryz.prog 137 #[.string ⟨#[45, 46, 95]⟩, .int .i32 (x : Int)] w fun e w' => e = .returned (.bool (decide (x = 45 ∨ x = 46 ∨ x = 95))) ∧ Below w.heap.size w w' := by
  have HI : Keep (Calls Tryz.prog 160 #[.string ⟨#[45, 46, 95]⟩, .int .i32 (x : Int)] w fun e w' => ∃ r : Int, e = .returned (.int .i64 r) ∧ decide (0 ≤ r) = decide (x = 45 ∨ x = 46 ∨ x = 95) ∧ Below w.heap.size w w') := ⟨by
    by_cases h : x < 128
    · refine (Tryz.strings_IndexRune_ascii ⟨#[45, 46, 95]⟩ (x : Int) w (by omega) (by omega)).mono ?_
      rintro e w' ⟨rfl, rfl⟩
      refine ⟨_, rfl, ?_, Below.refl _ _⟩
      have hall : ∀ y : Nat, y < 128 → decide (0 ≤ Lib.indexByte [45, 46, 95] ((y : Int).toNat.toUInt8)) = decide (y = 45 ∨ y = 46 ∨ y = 95) := by decide
      exact hall x h
    · refine (irune_high [45, 46, 95] (by decide) (by decide) x (by omega) (by omega) w).mono ?_
      rintro e w' ⟨rfl, hb⟩
      refine ⟨_, rfl, ?_, hb⟩
      rw [show decide ((0 : Int) ≤ -1) = false from rfl, eq_comm, decide_eq_false_iff_not]
      omega⟩
  generalize decide (x = 45 ∨ x = 46 ∨ x = 95) = b at *
  generalize (x : Int) = xi at *
  go_enter Tryz.func137, Tryz.ntmps137
  go_wp2_with fail
  refine HI.out.mono ?_
  rintro e w1 ⟨r, rfl, hr, hb⟩
  have HB := Keep.keep hb
  clear hb HI
  go_wp2_with fail
  go_ret
  exact ⟨rfl, HB.out⟩
/-- the runes that a name must not have -/
def oddR (x : Nat) : Bool := !((decide (97 ≤ x) && decide (x ≤ 122)) || (decide (65 ≤ x) && decide (x ≤ 90)) || (decide (48 ≤ x) && decide (x ≤ 57)) || decide (x = 45 ∨ x = 46 ∨ x = 95))
set_option maxHeartbeats 1000000 in
set_option maxRecDepth 100000 in
theorem odd_any (x : Nat) (hx : x ≤ 1114111) (w : World) : Calls Tryz.prog 136 #[.int .i32 (x : Int)] w fun e w' => e = .returned (.bool (oddR x)) ∧ Below w.heap.size w w' := by
  have HC := Keep.keep (crune_any x hx w)
  by_cases ha : 97 ≤ x ∧ x ≤ 122
  · have HR : Keep (oddR x = false) := ⟨by simp [oddR, ha.1, ha.2]⟩
    rw [HR.out]
    have h1 : (97 : Int) ≤ (x : Int) := by omega
    have h2 : (x : Int) ≤ 122 := by omega
    clear HC ha hx
    generalize (x : Int) = xi at *
    go_enter Tryz.func136, Tryz.ntmps136
    go_wp2_with fail
    go_ret
    exact ⟨rfl, Below.refl _ _⟩
  by_cases hb : 65 ≤ x ∧ x ≤ 90
  · have HR : Keep (oddR x = false) := ⟨by simp [oddR, hb.1, hb.2]⟩
    rw [HR.out]
    have h1 : (65 : Int) ≤ (x : Int) := by omega
    have h2 : (x : Int) ≤ 90 := by omega
    clear HC ha hb hx
    generalize (x : Int) = xi at *
    go_enter Tryz.func136, Tryz.ntmps136
    go_wp2_with fail
    go_ret
    exact ⟨rfl, Below.refl _ _⟩
  by_cases hc : 48 ≤ x ∧ x ≤ 57
  · have HR : Keep (oddR x = false) := ⟨by simp [oddR, hc.1, hc.2]⟩
    rw [HR.out]
    have h1 : (48 : Int) ≤ (x : Int) := by omega
    have h2 : (x : Int) ≤ 57 := by omega
    clear HC ha hb hc hx
    generalize (x : Int) = xi at *
    go_enter Tryz.func136, Tryz.ntmps136
    go_wp2_with fail
    go_ret
    exact ⟨rfl, Below.refl _ _⟩
  have HR : Keep (oddR x = !decide (x = 45 ∨ x = 46 ∨ x = 95)) := ⟨by
    have e1 : (decide (97 ≤ x) && decide (x ≤ 122)) = false := by rw [← Bool.decide_and]; exact decide_eq_false ha
    have e2 : (decide (65 ≤ x) && decide (x ≤ 90)) = false := by rw [← Bool.decide_and]; exact decide_eq_false hb
    have e3 : (decide (48 ≤ x) && decide (x ≤ 57)) = false := by rw [← Bool.decide_and]; exact decide_eq_false hc
    unfold oddR
    rw [e1, e2, e3]
    simp⟩
  rw [HR.out]
  generalize decide (x = 45 ∨ x = 46 ∨ x = 95) = b at *
  have HX : Keep ((x : Int) < 48 ∨ 57 < (x : Int) ∧ (x : Int) < 65 ∨ 90 < (x : Int) ∧ (x : Int) < 97 ∨ 122 < (x : Int)) := ⟨by omega⟩
  clear ha hb hc HR hx
  generalize (x : Int) = xi at *
  rcases HX.out with h | ⟨h, h2⟩ | ⟨h, h2⟩ | h
  all_goals
    clear HX
    go_enter Tryz.func136, Tryz.ntmps136
    go_wp2_with fail
    refine HC.out.mono ?_
    rintro e w1 ⟨rfl, hb⟩
    have HB := Keep.keep hb
    clear hb HC
    go_wp2_with fail
    go_ret
    refine ⟨?_, HB.out⟩
    have e1 : (decide (xi < 48) || decide (57 < xi)) = true := by simp; omega
    have e2 : (decide (xi < 65) || decide (90 < xi)) = true := by simp; omega
    first
    | rfl
    | (show Ending.returned (.bool _) = Ending.returned (.bool _); simp [e1, e2])
theorem ent_odd : ∀ args w, (callFunc 136 args).run Tryz.prog w = .ok (.enter 136 args) w := enters_of Tryz.func136 (by kernel_rfl) rfl
set_option maxRecDepth 100000 in
theorem oddR_low (c : UInt8) (h : c.toNat < 128) : oddR c.toNat = !nameC c := by
  have hall : ∀ y : Nat, y < 128 → oddR y = !nameC (UInt8.ofNat y) := by decide
  have := hall c.toNat h
  rwa [UInt8.ofNat_toNat] at this
theorem oddR_high (x : Nat) (h : 128 ≤ x) : oddR x = true := by
  have e1 : decide (x ≤ 122) = false := decide_eq_false (by omega)
  have e2 : decide (x ≤ 90) = false := decide_eq_false (by omega)
  have e3 : decide (x ≤ 57) = false := decide_eq_false (by omega)
  have e4 : decide (x = 45 ∨ x = 46 ∨ x = 95) = false := decide_eq_false (by omega)
  unfold oddR
  rw [e1, e2, e3, e4]
  simp
set_option maxRecDepth 100000 in
theorem nameC_high : ∀ c : UInt8, 128 ≤ c.toNat → nameC c = false := by
  intro c h
  have hall : ∀ y : Nat, y < 256 → 128 ≤ y → nameC (UInt8.ofNat y) = false := by decide
  have := hall c.toNat c.toNat_lt h
  rwa [UInt8.ofNat_toNat] at this
theorem get_list (l : List UInt8) (i : Nat) (h : i < l.length) : (⟨l.toArray⟩ : ByteArray).get! i = l[i] := by
  simp [ByteArray.get!, h]
theorem bne_nilS (l : List UInt8) : (l == []) = l.isEmpty := by cases l <;> rfl
/-- no rune is odd: every byte is one that a name may have -/
theorem idxFunc_names (l : List UInt8) : ∀ (f pos : Nat), l.length ≤ pos + f → decide (Lib.idxFuncFrom oddR true ⟨l.toArray⟩ f pos < 0) = (l.drop pos).all nameC
  | 0, pos, h => by
    rw [List.drop_of_length_le (by omega)]
    rfl
  | f + 1, pos, h => by
    have hsz : (⟨l.toArray⟩ : ByteArray).size = l.length := rfl
    unfold Lib.idxFuncFrom
    rw [hsz]
    by_cases hp : pos < l.length
    · rw [if_pos hp, List.drop_eq_getElem_cons hp, List.all_cons]
      have hg := get_list l pos hp
      by_cases ha : l[pos].toNat < 128
      · have hd := Go.decode_ascii (⟨l.toArray⟩ : ByteArray) pos hp ha
        have hd1 : Utf8.decode (⟨l.toArray⟩ : ByteArray) pos = (l[pos].toNat, 1) := hd
        rw [hd1]
        simp only
        rw [oddR_low _ ha]
        cases hn : nameC l[pos] with
        | true =>
          rw [if_neg (by decide), idxFunc_names l f (pos + 1) (by omega), Bool.true_and]
        | false =>
          rw [if_pos (by decide)]
          simp
      · have hd := decode_high (⟨l.toArray⟩ : ByteArray) pos hp (by rw [hg]; omega)
        rw [oddR_high _ hd.1, if_pos rfl, nameC_high _ (by omega)]
        simp
    · rw [if_neg hp, List.drop_of_length_le (by omega)]
      rfl
set_option maxHeartbeats 1000000 in
set_option maxRecDepth 100000 in
theorem may_all (s : Tx) (w : World) : Calls Tryz.prog 95 #[.string ⟨s.toArray⟩] w fun e w' => e = .returned (.bool (nameP s)) ∧ Below w.heap.size w w' := by
  have HI := Keep.keep (Tryz.strings_IndexFunc_grows 136 #[] ent_odd oddR ⟨s.toArray⟩ w (fun W x hx _ => odd_any x hx W))
  have hx : decide (Lib.idxFunc oddR true ⟨s.toArray⟩ < 0) = s.all nameC := idxFunc_names s s.length 0 (by omega)
  generalize Lib.idxFunc oddR true ⟨s.toArray⟩ = r at *
  have e1 := bne_nilS s
  have e2 : decide ((s.length : Int) ≤ 255) = decide (s.length ≤ 255) := by simp only [decide_eq_decide]; omega
  unfold nameP
  generalize s.isEmpty = b1 at *
  generalize decide (s.length ≤ 255) = b2 at *
  generalize s.all nameC = b3 at *
  cases b1 with
  | true =>
    go_enter Tryz.func95, Tryz.ntmps95
    go_wp2_with fail
    go_ret
    exact ⟨rfl, Below.refl _ _⟩
  | false =>
  cases b2 with
  | false =>
    go_enter Tryz.func95, Tryz.ntmps95
    go_wp2_with fail
    go_ret
    exact ⟨rfl, Below.refl _ _⟩
  | true =>
    go_enter Tryz.func95, Tryz.ntmps95
    go_wp2_with fail
    refine HI.out.mono ?_
    rintro e w1 ⟨rfl, hb⟩
    have HB := Keep.keep hb
    clear hb HI
    go_wp2_with fail
    go_ret
    exact ⟨rfl, HB.out⟩
theorem may_ok : MayOk := fun s w _ => may_all s w
end Go.Proofs.YtmkofejijkabnaaGreatDoor
/- string(b) of what reads as bytes; []byte of a text that is written out. -/
namespace Go.Proofs.YtmkofejijkabnaaGreatDoor
open Go.RowKit
def ints (l : List UInt8) : List Int := l.map fun c => (c.toNat : Int)
theorem ints_length (l : List UInt8) : (ints l).length = l.length := by simp [ints]
theorem bytesOf_ints (l : List UInt8) : Lib.bytesOf (ints l) = l := by simp [Lib.bytesOf, ints, Function.comp_def]
theorem ints_cells (l : List UInt8) : (ints l).map (Value.int .u8) = bcells l := by simp [ints, bcells, Function.comp_def]
theorem Reads.bytesIn {w : World} {N : Nat → Prop} {p : Option Addr} {n c : Nat} {l : List UInt8} (h : Reads w N (.slice p n c) l) : n = l.length ∧ Lib.BytesIn w p n (ints l) := by
  obtain ⟨⟨a, cap, he, h1, h2, h3⟩, hc⟩ := h
  injection he with e1 e2 e3; subst e1 e2 e3
  refine ⟨rfl, fun hn => ?_⟩
  rcases h3 with h3 | ⟨b, off, rfl, _⟩
  · omega
  · refine ⟨b, off, rfl, fun i hi => ?_⟩
    rw [hc b off _ _ rfl i hi]
    simp [ints, List.getD_eq_getElem?_getD, hi]
theorem run_string_of {w : World} {N : Nat → Prop} {v : Value} {l : List UInt8} (h : Reads w N v l) : (convert 28 9 v).run Tryz.prog w = .ok (.string ⟨l.toArray⟩) w := by
  obtain ⟨a, cap, hu, _⟩ := h.shape
  subst hu
  have := Lib.BytesIn.convert h.bytesIn.2 (ints_length l) cap 28 5 9 Tryz.underlying28 Tryz.underlying5 Tryz.underlying9
  rw [this]
  rw [show strOfNums (ints l) = ⟨l.toArray⟩ by simp [strOfNums, ints, Function.comp_def]]
/-- []byte of a text that is written out: the row that the walk leaves -/
theorem Reads.lit {w : World} (e : TypeId) (c : Array Value) (l : List UInt8) (fr : Nat × Nat) (g n : Nat) (hg : g = w.heap.size) (hc : c = (bcells l).toArray) (hn : n = l.length) (hm : l.length ≤ maxLen) : Reads (w.alloc (.cells c e fr)) (fun b => b = w.heap.size) (.slice (some ⟨g, 0, none⟩) n n) l := by
  subst hg hc hn
  refine ⟨⟨_, _, rfl, Nat.le_refl _, hm, .inr ⟨_, _, rfl, rfl⟩⟩, fun b off m cap he j hj => ?_⟩
  injection he with e1 _ _; injection e1 with e1; injection e1 with e1 e2 _; subst e1 e2
  rw [World.cell?_alloc_mark, Nat.zero_add]
  simpa using bcells_get l j hj
/-- .. as a rule of the walk -/
theorem convB (w : World) (C : Array Value) (n c g : Nat) (hg : g = w.heap.size) : (convert 28 28 (.slice (some ⟨g, 0, none⟩) n c)).run Tryz.prog (w.alloc (.cells C 5)) = .ok (.slice (some ⟨g, 0, none⟩) n c) (w.alloc (.cells C 5 (C.size, C.size + 1))) :=
  Go.Joins.run_convert_bytes_const_at w 28 5 C n c g hg Tryz.underlying28 Tryz.underlying5
end Go.Proofs.YtmkofejijkabnaaGreatDoor
/- []byte(s) OF ANY TEXT: the capacity that is drawn stays hidden. -/
namespace Go.Proofs.YtmkofejijkabnaaGreatDoor
open Go.RowKit
theorem convS (l : List UInt8) (n : Nat) (hn : l.length = n) (hl : l.length ≤ maxLen) : ∃ cf : World → Nat, ∃ rf : World → Array Value, ∃ mf : World → Nat × Nat,
    (∀ w, (convert 9 28 (.string ⟨l.toArray⟩)).run Tryz.prog w = .ok (.slice (some ⟨w.heap.size, 0, none⟩) n (cf w)) (w.drew.alloc (.cells (rf w) 5 (mf w)))) ∧
    (∀ w, Reads (w.drew.alloc (.cells (rf w) 5 (mf w))) (fun b => b = w.heap.size) (.slice (some ⟨w.heap.size, 0, none⟩) n (cf w)) l) := by
  subst hn
  have hsz : (⟨l.toArray⟩ : ByteArray).size = l.length := by simp [ByteArray.size]
  refine ⟨fun w => grownCap w l.length 0 5, fun w => bytesRow ⟨l.toArray⟩ (grownCap w l.length 0 5), fun w => ((bytesRow ⟨l.toArray⟩ (grownCap w l.length 0 5)).size, (bytesRow ⟨l.toArray⟩ (grownCap w l.length 0 5)).size + 1), fun w => ?_, fun w => ?_⟩
  · have := run_bytes_of_string (P := Tryz.prog) w 9 28 5 ⟨l.toArray⟩ Tryz.underlying9 Tryz.underlying28 Tryz.underlying5
    rw [hsz] at this
    exact this
  · refine ⟨⟨_, _, rfl, grownCap_ge _ _ _ _, grownCap_le_maxLen _ _ _ _ hl, .inr ⟨_, _, rfl, rfl⟩⟩, fun b off m cap he j hj => ?_⟩
    injection he with e1 _ _; injection e1 with e1; injection e1 with e1 e2 _; subst e1 e2
    rw [show w.heap.size = w.drew.heap.size from rfl, World.cell?_alloc_mark, Nat.zero_add]
    have h2 : j < (bytesRow ⟨l.toArray⟩ (grownCap w l.length 0 5)).size := by simp [bytesRow]; omega
    simp [bytesRow, Array.getElem?_append, hj]
end Go.Proofs.YtmkofejijkabnaaGreatDoor
/- (*Disk).find. -/
namespace Go.Proofs.YtmkofejijkabnaaGreatDoor
open Go.RowKit
set_option maxHeartbeats 1000000 in
set_option maxRecDepth 100000 in
theorem dkfind_any (hm : MayOk) {w : World} {ow : Own} {D nb sb : Nat} {loc : Nat → Nat} {bv : Nat → Value} {vd : Value} {dl : List Value} {d : DkS} (h : DkIn w ow D nb sb loc bv vd dl d) (p : Tx) (hp : p.length ≤ 1000000) :
    Calls Tryz.prog 37 #[.pointer (some ⟨D, 0, none⟩), .string ⟨p.toArray⟩] w fun e w' => e = .returned (.tuple #[.pointer ((d.find p).1.map fun f => ⟨loc f, 0, none⟩), .int .i64 (d.find p).2]) ∧ Below w.heap.size w w' := by
  have HON : Keep (∀ wx, Below w.heap.size w wx → DkIn wx ow D nb sb loc bv vd dl d) := ⟨fun wx hb => h.on hb⟩
  have HF : Keep (d.find p = if d.asks [p] ≠ 0 then (none, d.asks [p]) else match SM.look d.now p with | some f => (some f, 0) | none => (none, 6)) := ⟨rfl⟩
  have HAS := Keep.keep (fun wx (hb : Below w.heap.size w wx) (v : Value) (hr : RdS wx (· < wx.heap.size) v [p]) => dkasks_any hm (h.on hb) v [p] hr (fun s hs => by obtain rfl := List.mem_singleton.1 hs; exact hp))
  generalize d.find p = r at *
  generalize d.asks [p] = a0 at *
  clear h hm
  go_enter Tryz.func37, Tryz.ntmps37
  go_wp2_with fail
  refine calls_at (R := fun wq => Below w.heap.size w wq ∧ RdS wq (· < wq.heap.size) (.slice (some ⟨w.heap.size, 0, none⟩) 1 1) [p]) ⟨(Below.refl _ _).alloc (Nat.le_refl _) _, RdV.new 9 (([p] : List Tx).map strV) 1 1 _ rfl rfl (by unfold maxLen; omega) (by simp)⟩ ?_
  intro w1 Hq
  refine (HAS.out w1 Hq.out.1 _ Hq.out.2).mono ?_
  rintro e w2 ⟨rfl, hb⟩
  have HB := Keep.keep (Hq.out.1.trans (hb.mono Hq.out.1.size))
  clear hb Hq HAS
  by_cases hz : a0 = 0
  rotate_left
  focus
    have hz1 : (a0 == 0) = false := by rw [beq_eq_false_iff_ne]; exact hz
    have hz2 : (a0 != 0) = true := by rw [bne, hz1]; rfl
    have HR : Keep (r = (none, a0)) := ⟨by rw [HF.out, if_pos hz]⟩
    clear hz HF
    go_wp2_with fail
    go_ret2
    exact ⟨by rw [HR.out]; rfl, HB.out⟩
  subst hz
  have hdk := HON.out w2 HB.out
  have c0 : w2.cell? ⟨D, 0, none⟩ = some (.map (some nb)) := hdk.row.cell rfl
  have hlk := MapS.lookOk Tryz.underlying9 Tryz.underlying105 hdk.now (zero_file w2) (p := p) (by unfold maxLen; omega)
  rw [folV_look] at hlk
  have HR : Keep (r = match SM.look d.now p with | some f => (some f, 0) | none => (none, 6)) := ⟨by rw [HF.out, if_neg (by decide)]⟩
  clear hdk HF
  cases hl : SM.look d.now p with
  | none =>
    rw [hl] at hlk HR
    go_wp2_with fail
    go_ret2
    exact ⟨by rw [HR.out]; rfl, HB.out⟩
  | some f =>
    rw [hl] at hlk HR
    go_wp2_with fail
    go_ret2
    exact ⟨by rw [HR.out]; rfl, HB.out⟩
end Go.Proofs.YtmkofejijkabnaaGreatDoor
/- HOW A DISK STANDS BEHIND A CHANGE; a disk as its callers see it. -/
namespace Go.Proofs.YtmkofejijkabnaaGreatDoor
open Go.RowKit
/-- the parts tagged T may have changed; tags of new blocks may have come -/
structure Mv (w w' : World) (ow ow' : Own) (T : Nat → Prop) : Prop where
  c : Chg (fun j => ∃ t, ow j = some t ∧ T t) w.heap.size w w'
  s : ∀ j, j < w.heap.size → ow' j = ow j
  l : ∀ j, (ow' j).isSome = true → j < w'.heap.size
section
variable {w w' : World} {ow ow' : Own} {T : Nat → Prop}
theorem Mv.block (h : Mv w w' ow ow' T) {j t : Nat} (hj : j < w.heap.size) (ht : ow j = some t) (hT : ¬ T t) : w'.heap[j]? = w.heap[j]? :=
  h.c.block j hj (fun ⟨t', e, hT'⟩ => hT (by rw [ht] at e; injection e with e; rw [e]; exact hT'))
theorem Mv.box (h : Mv w w' ow ow' T) {b : Nat} {v : Value} (hb : BoxAt w ow b v) : BoxAt w' ow' b v :=
  ⟨by rw [h.c.cell (p := ⟨b, 0, none⟩) hb.lt (by rintro ⟨t, e, -⟩; rw [hb.2] at e; cases e)]; exact hb.1, (h.s b hb.lt).trans hb.2⟩
theorem Mv.file (h : Mv w w' ow ow' T) {b k : Nat} {v : Value} {f : FileS} (hf : FileAt w ow b k v f) (h1 : ¬ T (4 + 2 * k)) (h2 : ¬ T (5 + 2 * k)) : FileAt w' ow' b k v f :=
  have hb := hf.row.lt
  ⟨by unfold Row; rw [h.block hb hf.t h1]; exact hf.row, ownsRow_loc _ _ (fun j e => h.block (hf.own.lt j e).2 (hf.tv j e) h2) hf.own, (h.s b hb).trans hf.t, fun j e => (h.s j (hf.own.lt j e).2).trans (hf.tv j e)⟩
theorem Mv.deed (h : Mv w w' ow ow' T) {D : Nat} {loc loc' : Nat → Nat} {v : Value} : ∀ {x : DeedS}, (∀ n f, x = .create n f → loc' f = loc f) → DeedV w ow D loc v x → DeedV w' ow' D loc' v x
  | .create n f, he, ⟨b1, b2, b3, h1, h2, h3, h4⟩ => ⟨b1, b2, b3, h1, by rw [he n f rfl]; exact h.box h2, h.box h3, h.box h4⟩
  | .rename _ _, _, ⟨b1, b2, h1, h2, h3⟩ => ⟨b1, b2, h1, h.box h2, h.box h3⟩
  | .remove _, _, ⟨b1, h1, h2⟩ => ⟨b1, h1, h.box h2⟩
  | .becomes _, _, h => h.elim
end
section
variable {w w' : World} {ow ow' : Own} {D nb sb : Nat} {loc : Nat → Nat} {bv : Nat → Value} {vd : Value} {dl : List Value} {d d' : DkS}
theorem DkIn.dlen (h : DkIn w ow D nb sb loc bv vd dl d) : dl.length = d.deeds.length := by
  have := (ownsV_reads h.dds).len
  omega
/-- the disk's variable alone: quota, power, fuse -/
theorem DkIn.disk (h : DkIn w ow D nb sb loc bv vd dl d) (m : Chg (fun j => j = D) w.heap.size w w') (hr : Row w' D 108 (dkC nb sb vd d')) (e1 : d'.files = d.files) (e2 : d'.many = d.many) (e3 : d'.settled = d.settled) (e4 : d'.deeds = d.deeds) : DkIn w' ow D nb sb loc bv vd dl d' := by
  have hm : Mv w w' ow ow (fun t => t = 0) := ⟨m.mono (Nat.le_refl _) (fun k hk => ⟨0, by rw [hk]; exact h.tD, rfl⟩), fun _ _ => rfl, fun j hj => Nat.lt_of_lt_of_le (h.lt j hj) m.size⟩
  have hnow : d'.now = d.now := by unfold DkS.now; rw [e3, e4]
  exact ⟨hr, by rw [hnow]; exact h.now.loc (hm.block h.now.lt h.tn (by decide)), by rw [e3]; exact h.set.loc (hm.block h.set.lt h.ts (by decide)),
    fun k hk => by rw [e1]; rw [e2] at hk; exact hm.file (h.file k hk) (by omega) (by omega),
    by rw [e4]; exact ownsRow_loc _ _ (fun j e => hm.block (h.lt j (by rw [h.td j e]; rfl)) (h.td j e) (by decide)) h.dds,
    fun i x v h1 h2 => by rw [e4] at h1; exact hm.deed (fun _ _ _ => rfl) (h.deed i x v h1 h2), h.tD, h.tn, h.ts, h.td, by rw [hnow, e2, e3]; exact h.num, hm.l, by rw [e4, e2]; exact h.dn⟩
/-- the fuse -/
theorem DkIn.fused (h : DkIn w ow D nb sb loc bv vd dl d) (m : Int) : DkIn (w.setCell ⟨D, 6, none⟩ (.int .i64 m)) ow D nb sb loc bv vd dl { d with fuse := m } :=
  h.disk (d' := { d with fuse := m }) ((Chg.refl (fun j => j = D) w.heap.size w).setCell (p := ⟨D, 6, none⟩) (.inr rfl) (.int .i64 m)) (h.row.set' 6 _ rfl) rfl rfl rfl rfl
/-- one file's bytes, and how many are safe -/
theorem DkIn.filed (h : DkIn w ow D nb sb loc bv vd dl d) {k : Nat} (hk : k < d.many) {v' : Value} {f' : FileS} (m : Chg (fun j => ow j = some (4 + 2 * k) ∨ ow j = some (5 + 2 * k)) w.heap.size w w') (hr : Row w' (loc k) 84 #[.int .i64 (k : Int), v', .int .i64 (f'.safe : Int)]) (ho : Owns w' 0 5 v' f'.bytes) (hv : ∀ j, v'.ownBlock = some j → ow j = some (5 + 2 * k) ∨ w.heap.size ≤ j) :
    DkIn w' (fun j => if v'.ownBlock = some j then some (5 + 2 * k) else ow j) D nb sb loc (fun j => if j = k then v' else bv j) vd dl (d.setFile k f') := by
  have hm : Mv w w' ow (fun j => if v'.ownBlock = some j then some (5 + 2 * k) else ow j) (fun t => t = 4 + 2 * k ∨ t = 5 + 2 * k) := by
    refine ⟨m.mono (Nat.le_refl _) (fun j hj => ?_), fun j hj => ?_, fun j hj => ?_⟩
    · rcases hj with e | e
      · exact ⟨_, e, .inl rfl⟩
      · exact ⟨_, e, .inr rfl⟩
    · show (if v'.ownBlock = some j then _ else _) = _
      split
      · rename_i e
        rcases hv j e with e2 | e2
        · exact e2.symm
        · omega
      · rfl
    · try simp only at hj
      split at hj
      · rename_i e; exact (ho.lt j e).2
      · exact Nat.lt_of_lt_of_le (h.lt j hj) m.size
  have ht : ∀ {j t : Nat}, ow j = some t → (fun j => if v'.ownBlock = some j then some (5 + 2 * k) else ow j) j = some t := fun {j t} e => (hm.s j (h.lt j (by rw [e]; rfl))).trans e
  have hnow : (d.setFile k f').now = d.now := rfl
  refine ⟨?_, by rw [hnow]; exact h.now.loc (hm.block h.now.lt h.tn (by omega)), h.set.loc (hm.block h.set.lt h.ts (by omega)), fun j hj => ?_, ?_, fun i x v h1 h2 => hm.deed (fun _ _ _ => rfl) (h.deed i x v h1 h2), ht h.tD, ht h.tn, ht h.ts, fun j e => ht (h.td j e), h.num, hm.l, h.dn⟩
  · unfold Row; rw [hm.block h.row.lt h.tD (by omega)]; exact h.row
  · by_cases e : j = k
    · subst e
      have e1 : (d.setFile j f').files j = f' := by show (if j = j then f' else _) = _; rw [if_pos rfl]
      rw [e1]
      have hf := h.file j hk
      simp only [if_true]
      exact ⟨hr, ho, ht hf.t, fun i e => if_pos e⟩
    · have e1 : (d.setFile k f').files j = d.files j := by show (if j = k then f' else _) = _; rw [if_neg e]
      rw [e1]
      simp only [if_neg e]
      exact hm.file (h.file j hj) (by omega) (by omega)
  · exact ownsRow_loc _ _ (fun j e => hm.block (h.lt j (by rw [h.td j e]; rfl)) (h.td j e) (by omega)) h.dds
/-- one more deed -/
theorem DkIn.deeds (h : DkIn w ow D nb sb loc bv vd dl d) {x : DeedS} {v vd' : Value} {loc' : Nat → Nat} {bv' : Nat → Value} (m : Mv w w' ow ow' (fun t => t = 0 ∨ t = 1 ∨ t = 3))
    (hr : Row w' D 108 (dkC nb sb vd' d')) (hn : FolIn w' 9 nb loc' d'.now) (hdd : w'.ownsRow 0 116 1 vd' d'.deeds.length (dl ++ [v])) (hx : DeedV w' ow' D loc' v x) (e1 : d'.deeds = d.deeds ++ [x]) (e2 : d'.settled = d.settled) (hvd : ∀ j, vd'.ownBlock = some j → ow' j = some 3)
    (hm : d.many ≤ d'.many) (hl : ∀ k, k < d.many → loc' k = loc k ∧ bv' k = bv k ∧ d'.files k = d.files k) (hf : ∀ k, d.many ≤ k → k < d'.many → FileAt w' ow' (loc' k) k (bv' k) (d'.files k)) (hnum : ∀ y ∈ d'.now, y.2 < d'.many) (hdn : ∀ n f, x = .create n f → f < d'.many) :
    DkIn w' ow' D nb sb loc' bv' vd' (dl ++ [v]) d' := by
  have ht : ∀ {j t : Nat}, ow j = some t → ow' j = some t := fun {j t} e => (m.s j (h.lt j (by rw [e]; rfl))).trans e
  refine ⟨hr, hn, ?_, fun k hk => ?_, hdd, fun i y u h1 h2 => ?_, ht h.tD, ht h.tn, ht h.ts, hvd, ?_, m.l, ?_⟩
  · rw [e2]
    exact (h.set.loc (m.block h.set.lt h.ts (by omega))).same (fun y hy => ((hl y.2 (h.num y (.inr hy))).1).symm)
  · by_cases e : k < d.many
    · obtain ⟨g1, g2, g3⟩ := hl k e
      rw [g1, g2, g3]
      exact m.file (h.file k e) (by omega) (by omega)
    · exact hf k (by omega) hk
  · rw [e1] at h1
    have hdl := h.dlen
    by_cases hi : i < d.deeds.length
    · rw [List.getElem?_append_left hi] at h1
      rw [List.getElem?_append_left (by omega)] at h2
      refine m.deed (fun n f e => ?_) (h.deed i y u h1 h2)
      subst e
      exact (hl f (h.dn n f (List.mem_of_getElem? h1))).1
    · rw [List.getElem?_append_right (by omega)] at h1
      rw [List.getElem?_append_right (by omega)] at h2
      have e3 : i - d.deeds.length = 0 := by
        refine Classical.byContradiction fun hc => ?_
        rw [List.getElem?_eq_none (by simp; omega)] at h1
        cases h1
      rw [hdl, e3] at h2
      rw [e3] at h1
      simp only [List.getElem?_cons_zero, Option.some.injEq] at h1 h2
      subst h1 h2
      exact hx
  · rintro y (hy | hy)
    · exact hnum y hy
    · rw [e2] at hy
      exact Nat.lt_of_lt_of_le (h.num y (.inr hy)) hm
  · intro n f hmem
    rw [e1] at hmem
    rcases List.mem_append.1 hmem with hmem | hmem
    · exact Nat.lt_of_lt_of_le (h.dn n f hmem) hm
    · exact hdn n f (List.mem_singleton.1 hmem).symm
/-- all is settled -/
theorem DkIn.setl (h : DkIn w ow D nb sb loc bv vd dl d) {sb' : Nat} (m : Chg (fun j => j = D) w.heap.size w w') (hs : w.heap.size ≤ sb') (hr : Row w' D 108 (dkC nb sb' (.slice none 0 0) d')) (hF : FolIn w' 9 sb' loc d.now) (e1 : d'.files = d.files) (e2 : d'.many = d.many) (e3 : d'.settled = d.now) (e4 : d'.deeds = []) :
    DkIn w' (fun j => if j = sb' then some 2 else ow j) D nb sb' loc bv (.slice none 0 0) [] d' := by
  have hm : Mv w w' ow (fun j => if j = sb' then some 2 else ow j) (fun t => t = 0) := by
    refine ⟨m.mono (Nat.le_refl _) (fun k hk => ⟨0, by rw [hk]; exact h.tD, rfl⟩), fun j hj => if_neg (by omega), fun j hj => ?_⟩
    try simp only at hj
    split at hj
    · rename_i e; rw [e]; exact hF.lt
    · exact Nat.lt_of_lt_of_le (h.lt j hj) m.size
  have ht : ∀ {j t : Nat}, ow j = some t → (fun j => if j = sb' then some 2 else ow j) j = some t := fun {j t} e => (hm.s j (h.lt j (by rw [e]; rfl))).trans e
  have hnow : d'.now = d.now := by unfold DkS.now; rw [e3, e4]; rfl
  refine ⟨hr, by rw [hnow]; exact h.now.loc (hm.block h.now.lt h.tn (by decide)), by rw [e3]; exact hF, fun k hk => by rw [e1]; rw [e2] at hk; exact hm.file (h.file k hk) (by omega) (by omega), by rw [e4]; exact World.ownsRow_nil _ _ _ _,
    fun i x v h1 _ => by rw [e4] at h1; simp at h1, ht h.tD, ht h.tn, if_pos rfl, (fun j hj => nomatch hj), ?_, hm.l, by rw [e4]; intro n f hf; simp at hf⟩
  rw [hnow, e2, e3]
  rintro x (hx | hx) <;> exact h.num x (.inl hx)
end
/-- what a func value has captured -/
def capB (v : Value) (j : Nat) : Prop := ∃ g t c, v = .func g t c ∧ Value.pointer (some ⟨j, 0, none⟩) ∈ c
/-- A DISK, as its callers see it: its parts lie in O -/
def DkAt (w : World) (O : Nat → Prop) (D : Nat) (d : DkS) : Prop :=
  ∃ ow nb sb loc bv vd dl, DkIn w ow D nb sb loc bv vd dl d ∧ (∀ j, (ow j).isSome = true → O j) ∧ (∀ v ∈ dl, ∀ j, capB v j → O j) ∧ ∀ j, O j → j < w.heap.size
theorem DkAt.on {w w' : World} {O : Nat → Prop} {D : Nat} {d : DkS} (h : DkAt w O D d) (hb : Below w.heap.size w w') : DkAt w' O D d := by
  obtain ⟨ow, nb, sb, loc, bv, vd, dl, h1, h2, h3, h4⟩ := h
  exact ⟨ow, nb, sb, loc, bv, vd, dl, h1.on hb, h2, h3, fun j hj => Nat.lt_of_lt_of_le (h4 j hj) hb.size⟩
theorem BoxAt.loc {w w' : World} {ow : Own} {b : Nat} {v : Value} (h : BoxAt w ow b v) (hb : w'.heap[b]? = w.heap[b]?) : BoxAt w' ow b v := ⟨(World.cell?_of_block (w := w) hb).trans h.1, h.2⟩
theorem DeedV.loc {w w' : World} {ow : Own} {D : Nat} {l : Nat → Nat} {v : Value} (hb : ∀ j, capB v j → w'.heap[j]? = w.heap[j]?) : ∀ {x : DeedS}, DeedV w ow D l v x → DeedV w' ow D l v x
  | .create _ _, ⟨b1, b2, b3, h1, h2, h3, h4⟩ => ⟨b1, b2, b3, h1, h2.loc (hb b1 ⟨_, _, _, h1, by simp⟩), h3.loc (hb b2 ⟨_, _, _, h1, by simp⟩), h4.loc (hb b3 ⟨_, _, _, h1, by simp⟩)⟩
  | .rename _ _, ⟨b1, b2, h1, h2, h3⟩ => ⟨b1, b2, h1, h2.loc (hb b1 ⟨_, _, _, h1, by simp⟩), h3.loc (hb b2 ⟨_, _, _, h1, by simp⟩)⟩
  | .remove _, ⟨b1, h1, h2⟩ => ⟨b1, h1, h2.loc (hb b1 ⟨_, _, _, h1, by simp⟩)⟩
  | .becomes _, h => h.elim
/-- a change outside of it -/
theorem DkAt.chg {w w' : World} {O M : Nat → Prop} {D : Nat} {d : DkS} (h : DkAt w O D d) (hb : Chg M w.heap.size w w') (hM : ∀ j, M j → ¬ O j) : DkAt w' O D d := by
  obtain ⟨ow, nb, sb, loc, bv, vd, dl, h1, h2, h3, hlt⟩ := h
  have hk : ∀ j, j < w.heap.size → O j → w'.heap[j]? = w.heap[j]? := fun j hj ho => hb.block j hj (fun hm => hM j hm ho)
  have ho : ∀ j, (ow j).isSome = true → w'.heap[j]? = w.heap[j]? := fun j hj => hk j (h1.lt j hj) (h2 j hj)
  refine ⟨ow, nb, sb, loc, bv, vd, dl, ⟨?_, h1.now.loc (ho nb (by rw [h1.tn]; rfl)), h1.set.loc (ho sb (by rw [h1.ts]; rfl)), fun k hk' => (h1.file k hk').loc (fun j hj => ho j (by rcases hj with e | e <;> rw [e] <;> rfl)),
    ownsRow_loc _ _ (fun j e => ho j (by rw [h1.td j e]; rfl)) h1.dds, fun i x v h4 h5 => ?_, h1.tD, h1.tn, h1.ts, h1.td, h1.num, fun j hj => Nat.lt_of_lt_of_le (h1.lt j hj) hb.size, h1.dn⟩, h2, h3, fun j hj => Nat.lt_of_lt_of_le (hlt j hj) hb.size⟩
  · unfold Row; rw [ho D (by rw [h1.tD]; rfl)]; exact h1.row
  · have h6 := h1.deed i x v h4 h5
    refine h6.loc (fun j hj => hk j ?_ (h3 v (List.mem_of_getElem? h5) j hj))
    obtain ⟨g, t, c, e, hm⟩ := hj
    cases x with
    | create n f =>
      obtain ⟨b1, b2, b3, e1, g2, g3, g4⟩ := h6
      rw [e1] at e
      injection e with _ _ e
      subst e
      simp at hm
      rcases hm with rfl | rfl | rfl
      · exact g2.lt
      · exact g3.lt
      · exact g4.lt
    | rename a b =>
      obtain ⟨b1, b2, e1, g2, g3⟩ := h6
      rw [e1] at e
      injection e with _ _ e
      subst e
      simp at hm
      rcases hm with rfl | rfl
      · exact g2.lt
      · exact g3.lt
    | remove a =>
      obtain ⟨b1, e1, g2⟩ := h6
      rw [e1] at e
      injection e with _ _ e
      subst e
      simp at hm
      rw [hm]
      exact g2.lt
    | becomes F => exact h6.elim
/-- behind a call that changes it -/
def DkTo (w : World) (O : Nat → Prop) (D : Nat) (d : DkS) (w' : World) : Prop := ∃ O', DkAt w' O' D d ∧ Chg O w.heap.size w w' ∧ ∀ j, O' j → O j ∨ w.heap.size ≤ j
theorem DkTo.of {w w' : World} {O : Nat → Prop} {D : Nat} {d : DkS} (h : DkAt w O D d) (hb : Below w.heap.size w w') : DkTo w O D d w' := ⟨O, h.on hb, Chg.of_below hb, fun _ hj => .inl hj⟩
theorem DkAt.lt {w : World} {O : Nat → Prop} {D : Nat} {d : DkS} (h : DkAt w O D d) : ∀ j, O j → j < w.heap.size := by
  obtain ⟨ow, nb, sb, loc, bv, vd, dl, h1, h2, h3, h4⟩ := h
  exact h4
theorem DkAt.mem {w : World} {O : Nat → Prop} {D : Nat} {d : DkS} (h : DkAt w O D d) : O D := by
  obtain ⟨ow, nb, sb, loc, bv, vd, dl, h1, h2, h3, h4⟩ := h
  exact h2 D (by rw [h1.tD]; rfl)
/-- a disk whose parts were told apart, and some new ones -/
theorem DkTo.mk {w w' : World} {O : Nat → Prop} {ow ow' : Own} {D nb sb : Nat} {loc : Nat → Nat} {bv : Nat → Value} {vd : Value} {dl : List Value} {d' : DkS} (h : DkIn w' ow' D nb sb loc bv vd dl d') (h2 : ∀ j, (ow j).isSome = true → O j) (hO : ∀ j, O j → j < w.heap.size)
    (hc : Chg (fun j => (ow j).isSome = true) w.heap.size w w') (hs : ∀ j, j < w.heap.size → ow' j = ow j) (hcap : ∀ v ∈ dl, ∀ j, capB v j → O j ∨ (w.heap.size ≤ j ∧ j < w'.heap.size)) : DkTo w O D d' w' :=
  ⟨fun j => O j ∨ (w.heap.size ≤ j ∧ j < w'.heap.size), ⟨ow', nb, sb, loc, bv, vd, dl, h, fun j hj => by
      rcases Nat.lt_or_ge j w.heap.size with hl | hl
      · rw [hs j hl] at hj; exact .inl (h2 j hj)
      · exact .inr ⟨hl, h.lt j hj⟩, hcap, fun j hj => hj.elim (fun e => Nat.lt_of_lt_of_le (hO j e) hc.size) (·.2)⟩,
    hc.mono (Nat.le_refl _) h2, fun j hj => hj.imp id (·.1)⟩
theorem DkTo.mono {w w1 w' : World} {O : Nat → Prop} {D : Nat} {d : DkS} (hb : Below w.heap.size w w1) (h : DkTo w1 O D d w') : DkTo w O D d w' := by
  obtain ⟨O', h1, h2, h3⟩ := h
  exact ⟨O', h1, (Chg.of_below hb).trans (h2.lower hb.size), fun j hj => (h3 j hj).imp id (fun e => Nat.le_trans hb.size e)⟩
end Go.Proofs.YtmkofejijkabnaaGreatDoor
/- A REGION THAT DRAWS ITS ORDER, ONE FACT AN OPERATION: what each operation yields is said of its value and of the world (a predicate that stays true when memory is added); an operation may use what is said of those that it waits for. -/
namespace Go.Proofs.YtmkofejijkabnaaGreatDoor
open Go.RowKit
/-- what op i waits for -/
theorem waits_of {ops : Array Oper} {i j : Nat} {o : Oper} (ho : ops[i]? = some o) (h : Region.waitsFor .any ops i j = true) : ∃ e ∈ o.after, Region.binds .any e = true ∧ e.on = j := by
  obtain ⟨oj, h1, h2⟩ := Region.waitsFor_spec h
  obtain rfl := Option.some.inj (ho.symm.trans h1)
  exact h2
theorem getD_set_iff {d : Array Bool} {i j : Nat} (h : (d.setIfInBounds i true).getD j false = true) : i = j ∨ d.getD j false = true := by
  by_cases e : i = j
  · exact .inl e
  · right; simpa [Array.getD_eq_getD_getElem?, Array.getElem?_setIfInBounds_ne e] using h
theorem wpOp_dst {P : Program} {ops : Array Oper} {Q : Exit → Act → World → Prop} {K K' : Act → World → Prop} {i : Nat} {a : Act} {w : World} (h : ∀ a w, K a w → K' a w) (hh : wpOp P ops Q i K a w) : wpOp P ops Q i K' a w := wpOp_mono h hh
/-- D: the slots, one an operation; C: the class of worlds; St: what every operation does to the world; T i v w: what is said of operation i's value v in world w -/
theorem wp_region_spcS {P : Program} {ops : Array Oper} {id : Nat} {Q : Exit → Act → World → Prop} {a : Act} {w : World} (D : List Nat) (C : World → Prop) (T : Nat → Value → World → Prop) (St : World → World → Prop) (hm : P.follows .mixedOrders = true)
    (hD : ops.toList.map (·.dst) = D.map some) (hnd : D.Nodup) (hds : ∀ d ∈ D, d < a.tmps.size) (hB : inOrderB ops = true) (h0 : C w.drew)
    (hst : ∀ i v w w', T i v w → C w → St w w' → T i v w')
    (hs : ∀ i, i < ops.size → ∀ a1 w1, Fr a D a1 → C w1 → (∀ j, Region.waitsFor .any ops i j = true → T j (slot a1 (D.getD j 0)) w1) →
      wpOp P ops Q i (fun a2 w2 => ∃ v, a2 = a1.put (some (D.getD i 0)) v ∧ C w2 ∧ St w1 w2 ∧ T i v w2) a1 w1)
    (he : ∀ a1 w1, a1 = D.foldl (fun b d => b.put (some d) (slot a1 d)) a → C w1 → (∀ j, j < ops.size → T j (slot a1 (D.getD j 0)) w1) → Q .normal a1 w1) : (Code.region id ops true).wp P Q a w := by
  have hlen : D.length = ops.size := by have := congrArg List.length hD; simpa using this.symm
  have hmem : ∀ i, i < ops.size → D.getD i 0 ∈ D := fun i hi => by
    rw [List.getD_eq_getElem?_getD, List.getElem?_eq_getElem (by omega)]
    exact List.getElem_mem _
  have hinj : ∀ i j, i < ops.size → j < ops.size → D.getD i 0 = D.getD j 0 → i = j := fun i j hi hj h => by
    rw [List.getD_eq_getElem?_getD, List.getD_eq_getElem?_getD, List.getElem?_eq_getElem (by omega), List.getElem?_eq_getElem (by omega)] at h
    exact (List.getElem_inj hnd).1 h
  refine wp_region_fr D (fun done s w1 => C w1 ∧ ∀ j, j < ops.size → done.getD j false = true → T j (s (D.getD j 0)) w1) hm ⟨h0, fun j hj hd => ?_⟩ ?_ ?_
  · simp [Array.getD_eq_getD_getElem?, hj] at hd
  · intro done a1 w1 hF hI hz hcl i hi
    have hlt := ready_lt hi
    refine wpOp_mono ?_ (hs i hlt a1 w1 hF hI.1 (fun j hj => ?_))
    · rintro a2 w2 ⟨v, rfl, hC2, hb, hT⟩
      refine ⟨hF.put _ (hmem i hlt) v, hC2, fun j hj hd => ?_⟩
      by_cases e : i = j
      · subst e
        rw [slot_put_same _ _ _ (by rw [hF.size]; exact hds _ (hmem i hlt))]
        exact hT
      · have hd' := (getD_set_iff hd).resolve_left e
        rw [slot_put_ne _ _ _ _ (fun e2 => e (hinj i j hlt hj e2))]
        exact hst j _ _ _ (hI.2 j hj hd') hI.1 hb
    · obtain ⟨e, he1, he2, he3⟩ := waits_of (Array.getElem?_eq_getElem hlt) hj
      have hdn := (ready_at hi (Array.getElem?_eq_getElem hlt)).2 e he1 he2
      rw [he3] at hdn
      refine hI.2 j ?_ hdn
      rcases Nat.lt_or_ge j done.size with h | h
      · omega
      · simp [Array.getD_eq_getD_getElem?, Array.getElem?_eq_none h] at hdn
  · intro done a1 w1 ha hI hz hr
    exact he a1 w1 ha hI.1 (fun j hj => hI.2 j hj (all_done hB hz hr j hj))
/-- D: the slots, one an operation; C: the class of worlds; T i v w: what is said of operation i's value v in world w -/
theorem wp_region_spc {P : Program} {ops : Array Oper} {id : Nat} {Q : Exit → Act → World → Prop} {a : Act} {w : World} (D : List Nat) (C : World → Prop) (T : Nat → Value → World → Prop) (hm : P.follows .mixedOrders = true)
    (hD : ops.toList.map (·.dst) = D.map some) (hnd : D.Nodup) (hds : ∀ d ∈ D, d < a.tmps.size) (hB : inOrderB ops = true) (h0 : C w.drew)
    (hst : ∀ i v w w', T i v w → C w → Below w.heap.size w w' → T i v w')
    (hs : ∀ i, i < ops.size → ∀ a1 w1, Fr a D a1 → C w1 → (∀ j, Region.waitsFor .any ops i j = true → T j (slot a1 (D.getD j 0)) w1) →
      wpOp P ops Q i (fun a2 w2 => ∃ v, a2 = a1.put (some (D.getD i 0)) v ∧ C w2 ∧ Below w1.heap.size w1 w2 ∧ T i v w2) a1 w1)
    (he : ∀ a1 w1, a1 = D.foldl (fun b d => b.put (some d) (slot a1 d)) a → C w1 → (∀ j, j < ops.size → T j (slot a1 (D.getD j 0)) w1) → Q .normal a1 w1) : (Code.region id ops true).wp P Q a w :=
  wp_region_spcS D C T (fun w w' => Below w.heap.size w w') hm hD hnd hds hB h0 hst hs he
/-- an operation that yields a value at once -/
theorem spc_val {P : Program} {ops : Array Oper} {Q : Exit → Act → World → Prop} {C : World → Prop} {T : Nat → Value → World → Prop} {i d : Nat} {a1 : Act} {w1 w2 : World} {op : Op} {tp : TypeId} {pos : String} {af : Array Edge} {g : Option (Nat × Bool)} {v : Value}
    (hi : ops[i]? = some ⟨some d, op, tp, pos, af, g⟩) (hg : Region.wanted (⟨some d, op, tp, pos, af, g⟩ : Oper) (yielded ops a1.tmps) = true)
    (hr : (execOp a1.eval (⟨some d, op, tp, pos, af, g⟩ : Oper)).run P w1 = .ok (.value v) w2) (hC : C w2) (hb : Below w1.heap.size w1 w2) (hT : T i v w2) :
    wpOp P ops Q i (fun a2 w2 => ∃ v, a2 = a1.put (some d) v ∧ C w2 ∧ Below w1.heap.size w1 w2 ∧ T i v w2) a1 w1 := by
  unfold wpOp
  rw [hi]
  simp only
  rw [if_pos hg]
  refine .inl ?_
  unfold Oper.wp
  rw [hr]
  exact ⟨v, rfl, hC, hb, hT⟩
/-- an operation that calls -/
theorem spc_call {P : Program} {ops : Array Oper} {Q : Exit → Act → World → Prop} {C : World → Prop} {T : Nat → Value → World → Prop} {i d : Nat} {a1 : Act} {w1 : World} {f : FuncId} {args : Array Operand} {ts : Array TypeId} {tp : TypeId} {pos : String} {af : Array Edge} {g : Option (Nat × Bool)} {vs : Array Value}
    (hi : ops[i]? = some ⟨some d, .call ⟨.value (.func f), args, ts⟩, tp, pos, af, g⟩) (hg : Region.wanted (⟨some d, .call ⟨.value (.func f), args, ts⟩, tp, pos, af, g⟩ : Oper) (yielded ops a1.tmps) = true)
    (hent : Enters P f) (hargs : args.map a1.eval = vs) (hc : Calls P f vs w1 fun e w2 => ∃ v, e = .returned v ∧ C w2 ∧ Below w1.heap.size w1 w2 ∧ T i v w2) :
    wpOp P ops Q i (fun a2 w2 => ∃ v, a2 = a1.put (some d) v ∧ C w2 ∧ Below w1.heap.size w1 w2 ∧ T i v w2) a1 w1 := by
  unfold wpOp
  rw [hi]
  simp only
  rw [if_pos hg]
  refine .inl ?_
  unfold Oper.wp
  have : (execOp a1.eval (⟨some d, .call ⟨.value (.func f), args, ts⟩, tp, pos, af, g⟩ : Oper)).run P w1 = .ok (.enter f vs) w1 := by
    have h1 : a1.eval (.func f) = .func (.func f) #[] #[] := rfl
    unfold execOp
    simp only [resolve, Deferred.ofValue, hargs, h1, invoke, Sem.run_bind, Sem.run_pure, Result.andThen_ok]
    simp [hent vs w1]
  rw [this, Oper.upon_enter]
  refine hc.mono ?_
  rintro e w2 ⟨v, rfl, h⟩
  exact ⟨v, rfl, h⟩
/-- an operation that yields a value at once -/
theorem spcS_val {P : Program} {ops : Array Oper} {Q : Exit → Act → World → Prop} {C : World → Prop} {T : Nat → Value → World → Prop} {St : World → World → Prop} {i d : Nat} {a1 : Act} {w1 w2 : World} {op : Op} {tp : TypeId} {pos : String} {af : Array Edge} {g : Option (Nat × Bool)} {v : Value}
    (hi : ops[i]? = some ⟨some d, op, tp, pos, af, g⟩) (hg : Region.wanted (⟨some d, op, tp, pos, af, g⟩ : Oper) (yielded ops a1.tmps) = true)
    (hr : (execOp a1.eval (⟨some d, op, tp, pos, af, g⟩ : Oper)).run P w1 = .ok (.value v) w2) (hC : C w2) (hb : St w1 w2) (hT : T i v w2) :
    wpOp P ops Q i (fun a2 w2 => ∃ v, a2 = a1.put (some d) v ∧ C w2 ∧ St w1 w2 ∧ T i v w2) a1 w1 := by
  unfold wpOp
  rw [hi]
  simp only
  rw [if_pos hg]
  refine .inl ?_
  unfold Oper.wp
  rw [hr]
  exact ⟨v, rfl, hC, hb, hT⟩
/-- an operation that calls -/
theorem spcS_call {P : Program} {ops : Array Oper} {Q : Exit → Act → World → Prop} {C : World → Prop} {T : Nat → Value → World → Prop} {St : World → World → Prop} {i d : Nat} {a1 : Act} {w1 : World} {f : FuncId} {args : Array Operand} {ts : Array TypeId} {tp : TypeId} {pos : String} {af : Array Edge} {g : Option (Nat × Bool)} {vs : Array Value}
    (hi : ops[i]? = some ⟨some d, .call ⟨.value (.func f), args, ts⟩, tp, pos, af, g⟩) (hg : Region.wanted (⟨some d, .call ⟨.value (.func f), args, ts⟩, tp, pos, af, g⟩ : Oper) (yielded ops a1.tmps) = true)
    (hent : Enters P f) (hargs : args.map a1.eval = vs) (hc : Calls P f vs w1 fun e w2 => ∃ v, e = .returned v ∧ C w2 ∧ St w1 w2 ∧ T i v w2) :
    wpOp P ops Q i (fun a2 w2 => ∃ v, a2 = a1.put (some d) v ∧ C w2 ∧ St w1 w2 ∧ T i v w2) a1 w1 := by
  unfold wpOp
  rw [hi]
  simp only
  rw [if_pos hg]
  refine .inl ?_
  unfold Oper.wp
  have : (execOp a1.eval (⟨some d, .call ⟨.value (.func f), args, ts⟩, tp, pos, af, g⟩ : Oper)).run P w1 = .ok (.enter f vs) w1 := by
    have h1 : a1.eval (.func f) = .func (.func f) #[] #[] := rfl
    unfold execOp
    simp only [resolve, Deferred.ofValue, hargs, h1, invoke, Sem.run_bind, Sem.run_pure, Result.andThen_ok]
    simp [hent vs w1]
  rw [this, Oper.upon_enter]
  refine hc.mono ?_
  rintro e w2 ⟨v, rfl, h⟩
  exact ⟨v, rfl, h⟩
theorem wanted_none {o : Oper} {y : Nat → Option Bool} (h : o.guard = none) : Region.wanted o y = true := by simp [Region.wanted, h]
theorem wanted_of {ops : Array Oper} {o : Oper} {a : Act} {g d : Nat} {b : Bool} (ho : o.guard = some (g, b)) (hog : (ops[g]?).bind (·.dst) = some d) (hv : slot a d = .bool b) : Region.wanted o (yielded ops a.tmps) = true := by
  have h1 : a.tmps[d]? = some (.bool b) := by
    unfold slot at hv
    rcases Nat.lt_or_ge d a.tmps.size with h | h
    · simpa [Array.getD_eq_getD_getElem?, h] using hv
    · simp [Array.getD_eq_getD_getElem?, Array.getElem?_eq_none h, undef] at hv
  have h2 : yielded ops a.tmps g = some b := by simp [yielded, hog, h1]
  simp [Region.wanted, ho, h2]
section
variable {P : Program} {ρ : Operand → Value} {d : Option Tmp} {x y c m n : Operand} {t t1 t2 : TypeId} {pos : String} {af : Array Edge} {g : Option (Nat × Bool)} {w : World}
theorem run_pickT (hc : ρ c = .bool true) : (execOp ρ (⟨d, .pick c x y, t, pos, af, g⟩ : Oper)).run P w = .ok (.value (ρ x)) w := by
  simp [execOp, hc, asBool]
theorem run_pickF (hc : ρ c = .bool false) : (execOp ρ (⟨d, .pick c x y, t, pos, af, g⟩ : Oper)).run P w = .ok (.value (ρ y)) w := by
  simp [execOp, hc, asBool]
theorem run_lenSl {a : Option Addr} {k cap : Nat} {e : TypeId} (hu : P.underlying t1 = some (.slice e)) (hx : ρ x = .slice a k cap) : (execOp ρ (⟨d, .call ⟨.builtin .len, #[x], #[t1]⟩, t, pos, af, g⟩ : Oper)).run P w = .ok (.value (.int .i64 (k : Int))) w := by
  simp [execOp, resolve, invoke, builtin, Builtin.len_, hx, run_underlying hu]
  rfl
theorem run_slB {lo hi mx : Option Operand} {v : Value} (h : (Instr.sliceAt t1 (ρ x) (lo.map ρ) (hi.map ρ) (mx.map ρ)).run P w = .ok v w) : (execOp ρ (⟨d, .slice t1 x lo hi mx, t, pos, af, g⟩ : Oper)).run P w = .ok (.value v) w := by
  simp [execOp, h]
theorem run_mkB {v : Value} {w' : World} (h : (Instr.makeSlice t1 (ρ m) (ρ n)).run P w = .ok v w') : (execOp ρ (⟨d, .makeSlice t1 m n, t, pos, af, g⟩ : Oper)).run P w = .ok (.value v) w' := by
  simp [execOp, h]
end
end Go.Proofs.YtmkofejijkabnaaGreatDoor
/- A REGION THAT DRAWS ITS ORDER: its first n operations in any order, one fact each (as in Spc); then a tail in one forced order, walked as a list. -/
namespace Go.Proofs.YtmkofejijkabnaaGreatDoor
open Go.RowKit
theorem cnt_set (n i : Nat) (hi : i < n) (p p' : Nat → Bool) (h1 : p i = true) (h2 : p' i = false) (h3 : ∀ j, j ≠ i → p' j = p j) : (List.range n).countP p = (List.range n).countP p' + 1 := by
  induction n with
  | zero => omega
  | succ n ih =>
    rw [List.range_succ, List.countP_append, List.countP_append]
    by_cases e : i = n
    · subst e
      have : (List.range i).countP p = (List.range i).countP p' := List.countP_congr (fun j hj => by
        have : j ≠ i := by have := List.mem_range.1 hj; omega
        rw [h3 j this])
      rw [this]
      simp [h1, h2]
    · rw [ih (by omega)]
      have : p' n = p n := h3 n (fun h => e h.symm)
      simp only [List.countP_cons, this, List.countP_nil]
      omega
def headDone (n m : Nat) : Array Bool := (List.replicate n true ++ List.replicate (m - n) false).toArray
theorem wp_region_spcT {P : Program} {l : List Oper} {id : Nat} {Q : Exit → Act → World → Prop} {a : Act} {w : World} (n : Nat) (D : List Nat) (C : World → Prop) (T : Nat → Value → World → Prop) (St : World → World → Prop) (hm : P.follows .mixedOrders = true)
    (hD : (l.take n).map (·.dst) = D.map some) (hnd : D.Nodup) (hds : ∀ d ∈ D, d < a.tmps.size) (hio : inOrderB l.toArray = true) (hn : n < l.length) (hsk : Region.sinkB .any l.toArray n = true) (hch : Region.chainB .any l.toArray n = true)
    (hsq : Region.seqB .any l.toArray (l.length - n) n (headDone n l.length) = true) (h0 : C w.drew)
    (hst : ∀ i v w w', T i v w → C w → St w w' → T i v w')
    (hs : ∀ i, i < n → ∀ a1 w1, Fr a D a1 → C w1 → (∀ j, j < n → Region.waitsFor .any l.toArray i j = true → T j (slot a1 (D.getD j 0)) w1) →
      wpOp P l.toArray Q i (fun a2 w2 => ∃ v, a2 = a1.put (some (D.getD i 0)) v ∧ C w2 ∧ St w1 w2 ∧ T i v w2) a1 w1)
    (he : ∀ a1 w1, a1 = D.foldl (fun b d => b.put (some d) (slot a1 d)) a → C w1 → (∀ j, j < n → T j (slot a1 (D.getD j 0)) w1) → wpList P l.toArray Q (l.drop n) a1 w1) : (Code.region id l.toArray true).wp P Q a w := by
  have hlen : D.length = n := by have := congrArg List.length hD; simp at this; omega
  have hmem : ∀ i, i < n → D.getD i 0 ∈ D := fun i hi => by
    rw [List.getD_eq_getElem?_getD, List.getElem?_eq_getElem (by omega)]
    exact List.getElem_mem _
  have hinj : ∀ i j, i < n → j < n → D.getD i 0 = D.getD j 0 → i = j := fun i j hi hj h => by
    rw [List.getD_eq_getElem?_getD, List.getD_eq_getElem?_getD, List.getElem?_eq_getElem (by omega), List.getElem?_eq_getElem (by omega)] at h
    exact (List.getElem_inj hnd).1 h
  have hsz : l.toArray.size = l.length := by simp
  have key : ∀ (f : Nat) (done : Array Bool) (a1 : Act) (w1 : World), HeadInv .any l.toArray n done → Fr a D a1 → C w1 → (∀ j, j < n → done.getD j false = true → T j (slot a1 (D.getD j 0)) w1) →
      (List.range n).countP (fun j => !done.getD j false) = f → wpAny P .any l.toArray Q (f + (l.length - n)) done a1 w1 := by
    intro f
    induction f with
    | zero =>
      intro done a1 w1 inv hF hC hT hc
      have hall : ∀ j, j < n → done.getD j false = true := fun j hj => by
        have := List.countP_eq_zero.1 hc j (List.mem_range.2 hj)
        simpa using this
      have hdn : done = headDone n l.length := by
        have hs1 : done.size = l.length := by rw [inv.size, hsz]
        refine Array.ext (by simp [headDone, hs1]; omega) (fun j h1 h2 => ?_)
        have hj2 : j < l.length := by omega
        by_cases hj : j < n
        · have := hall j hj
          rw [Array.getD_eq_getD_getElem?, Array.getElem?_eq_getElem h1] at this
          simp only [Option.getD_some] at this
          rw [this]
          simp [headDone, hj]
        · have := inv.tail j (by omega) (by omega)
          rw [Array.getD_eq_getD_getElem?, Array.getElem?_eq_getElem h1] at this
          simp only [Option.getD_some] at this
          rw [this]
          simp [headDone, List.getElem_append, hj]
      have hw := he a1 w1 hF.eq hC (fun j hj => hT j hj (hall j hj))
      have hdl : (l.drop n).length = l.length - n := by simp
      have := wpAny_of_seq (md := .any) (ops := l.toArray) (Q' := Q) (l.drop n) n done a1 w1 (fun j => by simp [List.getElem?_drop]) (by rw [hdl, hdn]; exact hsq) hw
      rw [hdl] at this
      rwa [Nat.zero_add]
    | succ f ih =>
      intro done a1 w1 inv hF hC hT hc
      obtain ⟨j0, hj0, hu0⟩ : ∃ j0, j0 < n ∧ done.getD j0 false = false := by
        have : 0 < (List.range n).countP (fun j => !done.getD j false) := by omega
        obtain ⟨j, hj, hp⟩ := List.countP_pos_iff.1 this
        exact ⟨j, List.mem_range.1 hj, by simpa using hp⟩
      have e : f + 1 + (l.length - n) = (f + (l.length - n)) + 1 := by omega
      rw [e]
      refine ⟨fun hr => ?_, fun i hi => ?_⟩
      · have := all_done hio inv.size hr j0 (by rw [hsz]; omega)
        rw [hu0] at this; cases this
      · have hin : i < n := Nat.lt_of_not_le fun hle => tail_waits hsk hch (by rw [hsz]; exact hn) inv _ j0 rfl hj0 (getD_in (by rw [inv.size, hsz]; omega) hu0) i hle hi
        obtain ⟨hun, oi, hoi, hall⟩ := mem_ready.1 hi
        refine wpOp_mono ?_ (hs i hin a1 w1 hF hC (fun j hjn hj => ?_))
        · rintro a2 w2 ⟨v, rfl, hC2, hb, hTi⟩
          refine ih _ _ _ (inv.set hi hin) (hF.put _ (hmem i hin) v) hC2 (fun j hj hd => ?_) ?_
          · by_cases e : i = j
            · subst e
              rw [slot_put_same _ _ _ (by rw [hF.size]; exact hds _ (hmem i hin))]
              exact hTi
            · have hd' := (getD_set_iff hd).resolve_left e
              rw [slot_put_ne _ _ _ _ (fun e2 => e (hinj i j hin hj e2))]
              exact hst j _ _ _ (hT j hj hd') hC hb
          · have hisz : i < done.size := by rw [inv.size, hsz]; omega
            have := cnt_set n i hin (fun j => !done.getD j false) (fun j => !(done.setIfInBounds i true).getD j false) (by
              have := getD_both hun
              simp [this]) (by simp [Array.getD_eq_getD_getElem?, hisz]) (fun j hj => by
              have : i ≠ j := fun e => hj e.symm
              simp [Array.getD_eq_getD_getElem?, Array.getElem?_setIfInBounds_ne this])
            omega
        · obtain ⟨ed, he1, he2, he3⟩ := waits_of hoi hj
          have hdn := hall ed he1 he2
          rw [he3] at hdn
          exact hT j hjn hdn
  refine wp_region_any hm ?_
  have inv : HeadInv .any l.toArray n (Array.replicate l.toArray.size false) := by
    refine ⟨by simp, fun j oj _ hl => ?_, fun t _ ht => getD_in (by simpa using ht) (getD_replicate_false _ _)⟩
    rw [getD_replicate_false] at hl; cases hl
  have hcn : (List.range n).countP (fun j => !(Array.replicate l.toArray.size false).getD j false) = n := by
    rw [List.countP_eq_length.2 (fun j _ => by rw [getD_replicate_false]; rfl), List.length_range]
  have := key n _ a w.drew inv (Fr.refl a D) h0 (fun j hj hd => by rw [getD_replicate_false] at hd; cases hd) hcn
  rw [show n + (l.length - n) = l.toArray.size by rw [hsz]; omega] at this
  exact this
end Go.Proofs.YtmkofejijkabnaaGreatDoor
