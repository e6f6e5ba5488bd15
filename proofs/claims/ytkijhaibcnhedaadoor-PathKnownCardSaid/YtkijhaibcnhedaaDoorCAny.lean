/- strings.IndexRune OF A RUNE BEYOND ASCII IN AN ASCII TEXT: -1. -/
import Derived.Test.YtkijhaibcnhedaaDoorDec
import Derived.Test.YtkijhaibcnhedaaDoorShelf
import Derived.Test.YtkijhaibcnhedaaDoorIns
import Derived.Test.YtkijhaibcnhedaaDoorQTail
import Derived.WalkMore
import Derived.Deep.DeepBigQuietO
namespace Go.Proofs.YtkijhaibcnhedaaDoor
open Go.RowKit
theorem indexByte_no (l : List UInt8) (c : UInt8) (h : ∀ x ∈ l, x ≠ c) : Lib.indexByte l c = -1 := by
  have h1 := Lib.indexByte_ge l c
  rcases (by omega : Lib.indexByte l c < 0 ∨ 0 ≤ Lib.indexByte l c) with h2 | h2
  · omega
  · obtain ⟨o, ho⟩ : ∃ o : Nat, Lib.indexByte l c = o := ⟨(Lib.indexByte l c).toNat, by omega⟩
    have := (Lib.indexByte_some ho).1
    exact (h c (List.mem_of_getElem? this) rfl).elim
theorem run_slice_from {P : Program} {T : TypeId} (hu : P.underlying T = some .string) (l : List UInt8) (k1 : IntKind) (i : Nat) (h1 : i ≤ l.length) (w : World) :
    (Instr.slice T (.string ⟨l.toArray⟩) (some (.int k1 (i : Int))) none none).run P w = .ok (.string ⟨(l.drop i).toArray⟩) w := by
  have hsz : ByteArray.size ⟨l.toArray⟩ = l.length := rfl
  simp [Instr.slice, Instr.sliceBounds, Instr.sliceBound, asIntOf, run_underlying hu, hsz, h1, ByteArray.extract_mk]
  rw [List.take_of_length_le (by rw [List.length_drop]; exact Nat.le_refl _)]
set_option maxHeartbeats 1000000 in
set_option maxRecDepth 100000 in
theorem irune_high (l : List UInt8) (hl : ∀ c ∈ l, c.toNat < 128) (_hlen : l.length ≤ 1000) (r : Nat) (hr : 128 ≤ r) (hr2 : r ≤ 2097151) (w : World) :
    Calls Tryd.prog 69 #[.string ⟨l.toArray⟩, .int .i32 (r : Int)] w fun e w' => e = .returned (.int .i64 (-1)) ∧ Below w.heap.size w w' := by
  have HL := Keep.keep hl
  clear hl
  by_cases h65 : r = 65533
  · subst h65
    go_enter Tryd.func69, Tryd.ntmps69
    go_wp2_with fail
    go_loopg [] l.length (fun g wx => ∃ i : Nat, i + g = l.length ∧ wx = w.iter ⟨l.toArray⟩ i)
    case atStart => exact ⟨0, by omega, rfl⟩
    case round =>
      obtain ⟨i, hig, rfl⟩ := hrel
      cases gk with
      | zero =>
        obtain rfl : i = l.length := by omega
        have hnx := run_next_end (P := Tryd.prog) w ⟨l.toArray⟩ l.length
        go_wp2_with fail
        go_ret
        exact ⟨rfl, (Below.refl _ _).alloc (Nat.le_refl _) _⟩
      | succ g =>
        have hi : i < l.length := by omega
        have hnx := fun ty => run_next_ascii (P := Tryd.prog) w ⟨l.toArray⟩ i ty hi (HL.out _ (List.getElem_mem hi))
        have hc1 := HL.out _ (List.getElem_mem hi)
        obtain ⟨x, hx⟩ : ∃ x : UInt8, (⟨l.toArray⟩ : ByteArray)[i]'hi = x := ⟨_, rfl⟩
        have hx1 : x.toNat < 128 := by rw [← hx]; exact hc1
        rw [hx] at hnx
        have hcz : ((x.toNat : Int) == 65533) = false := beq_eq_false_iff_ne.2 (by omega)
        clear hc1 hx
        go_wp2_with fail
        go_roundg g
        case measure => omega
        case rel => exact ⟨i + 1, by omega, rfl⟩
  · have hne : ((r : Int) = 65533) = False := by simp; omega
    obtain ⟨t, z, he, ht1, ht3, hz⟩ := encode_high r hr
    have hv := Tryd.utf8_ValidRune (r : Int) w
    generalize Lib.validRune (r : Int) = vb at hv
    have HV := Keep.keep hv; clear hv
    have hcv : (convert 21 9 (.int .i32 (r : Int))).run Tryd.prog w = .ok (.string ⟨(t ++ [z]).toArray⟩) w := by rw [← he]; rfl
    clear he
    cases vb
    · go_enter Tryd.func69, Tryd.ntmps69
      go_wp2_with (go_at_call 84; ((with_reducible refine HV.out.mono ?_); rintro e w1 ⟨rfl, rfl⟩))
      go_ret
      exact ⟨rfl, Below.refl _ _⟩
    · go_enter Tryd.func69, Tryd.ntmps69
      go_wp2_with (go_at_call 84; ((with_reducible refine HV.out.mono ?_); rintro e w1 ⟨rfl, rfl⟩))
      have hsz : (⟨(t ++ [z]).toArray⟩ : ByteArray).size = t.length + 1 := by simp [ByteArray.size]
      have hsl : (⟨l.toArray⟩ : ByteArray).size = l.length := by simp [ByteArray.size]
      go_step3
      go_wp2_with fail
      have HB := Keep.keep hsl
      go_loopw [9] (fun v wr => v = .int .i64 (t.length : Int) ∧ wr = w1) (fun _ _ => 0)
      case atStart => exact ⟨congrArg (Value.int .i64) (by omega), rfl⟩
      case round =>
        obtain ⟨rfl, rfl⟩ := hrel
        by_cases hlt : t.length < l.length
        · go_wp2_with fail
          have HLo := HL.out
          obtain ⟨c, hc⟩ : ∃ c, l[t.length]? = some c := ⟨l[t.length], List.getElem?_eq_getElem hlt⟩
          have hc1 := HLo c (List.mem_of_getElem? hc)
          have k1 := run_index_str (P := Tryd.prog) Tryd.underlying9 ⟨l.toArray⟩ .i64 t.length c (by simpa using hc)
          have k2 := run_index_str (P := Tryd.prog) Tryd.underlying9 ⟨(t ++ [z]).toArray⟩ .i64 t.length z (by simp)
          have k3 := run_slice_from (P := Tryd.prog) Tryd.underlying9 l .i64 (t.length + 1) (by omega)
          rw [show ((t.length + 1 : Nat) : Int) = (t.length : Int) + 1 by omega] at k3
          have hwr := IntWalk.i64_in ((t.length : Int) + 1) (by omega)
          have h3 := indexByte_no (l.drop (t.length + 1)) z (fun x hx e => by have := HLo x (List.mem_of_mem_drop hx); subst e; omega)
          have hib : ∀ wx, Calls Tryd.prog 83 #[.string ⟨(l.drop (t.length + 1)).toArray⟩, .int .u8 (z.toNat : Int)] wx fun e w' => e = .returned (.int .i64 (-1)) ∧ w' = wx := by
            intro wx
            have := Tryd.strings_IndexByte ⟨(l.drop (t.length + 1)).toArray⟩ (z.toNat : Int) wx
            rw [show ((z.toNat : Int).toNat.toUInt8) = z by simp] at this
            rw [show (⟨(l.drop (t.length + 1)).toArray⟩ : ByteArray).data.toList = l.drop (t.length + 1) from rfl, h3] at this
            exact this
          have HIB := Keep.keep hib
          clear hib h3 HLo hc
          generalize l.drop (t.length + 1) = ld at *
          have hcz : ((c.toNat : Int) != (z.toNat : Int)) = true := by rw [bne_iff_ne]; omega
          generalize (c.toNat : Int) = ci at *
          generalize (z.toNat : Int) = zi at *
          go_step3
          go_wp2_with (go_quiet (fail))
          go_quiet ((go_at_call 83; exact quiet_after_same (HIB.out _)))
          go_wp2_with fail
          simp (zetaDelta := true) only [Exit.noGoto_ret, Exit.inBlock, Exit.then]
          go_ret
          exact ⟨rfl, below_drewN' (Below.refl _ _) _⟩
        · go_wp2_with fail
          rw [Exit.noGoto_ret]
          go_ret
          exact ⟨rfl, Below.refl _ _⟩
end Go.Proofs.YtkijhaibcnhedaaDoor
