/- pax: Number; and the law PaxTexts. -/
import Derived.Test.YtlhjehcfpnjbmaaDoorPaxNumL
import Derived.Test.YtlhjehcfpnjbmaaDoorPaxSelf
namespace Go.Proofs.YtlhjehcfpnjbmaaDoor
open Go.RowKit
/-- the two errors of strconv -/
def Errs (B : Nat) (w : World) : Prop := ∃ t1 p1 t2 p2, ∀ w', Below B w w' → w'.var? Tryd.prog "strconv.ErrSyntax" = some #[.iface t1 p1] ∧ w'.var? Tryd.prog "strconv.ErrRange" = some #[.iface t2 p2]
theorem Errs.on {B : Nat} {w w1 : World} (h : Errs B w) (hb : Below B w w1) : Errs B w1 := by
  obtain ⟨t1, p1, t2, p2, h⟩ := h
  exact ⟨t1, p1, t2, p2, fun w' h' => h w' (hb.trans h')⟩
theorem below_bytesWorld (w : World) (e : TypeId) (s : ByteArray) : Below w.heap.size w (Lib.bytesWorld w e s) := by
  refine ⟨?_, ?_, ?_, by rw [Lib.bytesWorld_size]; omega, fun j hj => Lib.bytesWorld_at_old w e s j hj⟩ <;> simp [Lib.bytesWorld, World.freeze, World.alloc, World.drew, -World.alloc_eq, -World.drew_eq]
theorem pint_any (l : List UInt8) (hl : l.length ≤ 100000) (B : Nat) (w : World) (hE : Errs B w) :
    Calls Tryd.prog 31 #[.string ⟨l.toArray⟩, .int .i64 10, .int .i64 64] w fun e w' => Below w.heap.size w w' ∧
      ((∃ v, Lib.parseIntB 64 l = .ok v ∧ e = .returned (.tuple #[.int .i64 v, .nilIface])) ∨ (numP l = none ∧ ∃ z ty p, e = .returned (.tuple #[.int .i64 z, .iface ty p]))) := by
  obtain ⟨t1, p1, t2, p2, h⟩ := hE
  obtain ⟨h1, h2⟩ := h w (Below.refl _ _)
  have hsz : (⟨l.toArray⟩ : ByteArray).size = l.length := rfl
  have hnone : (∀ v, Lib.parseIntB 64 l ≠ .ok v) → numP l = none := by
    intro hne
    unfold numP
    split
    · rename_i v hv; exact (hne v hv).elim
    · rfl
  cases hp : Lib.parseIntB 64 l
  · rename_i v
    refine (Any.strconv_ParseInt_10_at64_ok Tryd.laysC174 ⟨l.toArray⟩ (by rw [hsz]; omega) v hp w).mono ?_
    rintro e w' ⟨rfl, hw⟩
    refine ⟨?_, .inl ⟨v, rfl, rfl⟩⟩
    rcases hw with rfl | ⟨t, rfl⟩
    · exact Below.refl _ _
    · exact below_bytesWorld _ _ _
  · have hn := hnone (fun v hv => by rw [hp] at hv; cases hv)
    refine (Any.strconv_ParseInt_10_at64_syntax_var Tryd.laysC174 ⟨l.toArray⟩ (by rw [hsz]; omega) hp t1 p1 w h1).mono ?_
    rintro e w' ⟨N, rfl, _, _, hb⟩
    exact ⟨hb, .inr ⟨hn, _, _, _, rfl⟩⟩
  · have hn := hnone (fun v hv => by rw [hp] at hv; cases hv)
    refine (Any.strconv_ParseInt_10_at64_range_var Tryd.laysC174 ⟨l.toArray⟩ (by rw [hsz]; omega) hp t2 p2 w h2).mono ?_
    rintro e w' ⟨N, rfl, _, _, hb⟩
    exact ⟨hb, .inr ⟨hn, _, _, _, rfl⟩⟩
def numV (o : Option Int) : Value := .tuple #[.int .i64 (o.getD 0), .bool o.isSome]
set_option maxHeartbeats 1000000 in
set_option maxRecDepth 100000 in
theorem number_any (l : List UInt8) (hl : l.length ≤ 100000) (B : Nat) (w : World) (hB : B ≤ w.heap.size) (hT : Pow B w) (hE : Errs B w) :
    Calls Tryd.prog 18 #[.string ⟨l.toArray⟩] w fun e w' => e = .returned (numV (numP l)) ∧ Below w.heap.size w w' := by
  have HP := Keep.keep (pint_any l hl B w hE)
  have HTX := Keep.keep (fun (v : Int) (h0 : -9223372036854775808 ≤ v) (h1 : v ≤ 9223372036854775807) (wx : World) (h : Below w.heap.size w wx) => text_any v h0 h1 B wx (Nat.le_trans hB h.size) (hT.on (h.mono hB)))
  clear hT hE
  go_enter Tryd.func18, Tryd.ntmps18
  go_wp2_with fail
  refine HP.out.mono ?_
  rintro e w1 ⟨hb1, ⟨v, hv, rfl⟩ | ⟨hn, z, ty, p, rfl⟩⟩
  · have hvb := Lib.parseIntB_bounds hv
    have e63 : ((2 ^ (64 - 1) : Nat) : Int) = 9223372036854775808 := by decide
    have hnp : numP l = if Lib.itoa v = l then some v else none := by unfold numP; rw [hv]
    have HNP := Keep.keep hnp
    have HB1 := Keep.keep hb1
    clear hv hnp hb1
    have HTV := Keep.keep (HTX.out v (by omega) (by omega) w1 HB1.out)
    clear hvb e63
    generalize Lib.itoa v = t at *
    by_cases htl : t = l
    · have hbe : (t == l) = true := by rw [htl]; exact beq_self_eq_true l
      have HTL := Keep.keep htl
      clear htl
      go_wp2_with (go_at_call 13; ((with_reducible refine HTV.out.mono ?_); rintro e w2 ⟨rfl, hb2⟩))
      go_ret2
      refine ⟨?_, HB1.out.trans (hb2.mono HB1.out.size)⟩
      rw [HNP.out, if_pos HTL.out]; rfl
    · have hbe : (t == l) = false := beq_eq_false_iff_ne.2 htl
      have HTL := Keep.keep htl
      clear htl
      go_wp2_with (go_at_call 13; ((with_reducible refine HTV.out.mono ?_); rintro e w2 ⟨rfl, hb2⟩))
      go_ret2
      refine ⟨?_, HB1.out.trans (hb2.mono HB1.out.size)⟩
      rw [HNP.out, if_neg HTL.out]; rfl
  · have HN := Keep.keep hn
    clear hn
    go_wp2_with fail
    go_ret2
    exact ⟨by rw [HN.out]; rfl, hb1⟩
end Go.Proofs.YtlhjehcfpnjbmaaDoor
