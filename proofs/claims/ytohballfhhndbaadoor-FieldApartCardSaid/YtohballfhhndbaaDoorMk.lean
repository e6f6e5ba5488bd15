/- make([]T, n, n) OF ONE-CELL VALUES. -/
import Derived.Test.YtohballfhhndbaaDoorOwn
import Derived.Laws.MakeOwn
import Derived.OwnWalk
namespace Go.Proofs.YtohballfhhndbaaDoor
open Go.RowKit
theorem made_one (z : Value) (hz : z.cells = #[z]) (n : Nat) : madeCells z.cells n = Array.replicate n z := by
  rw [hz]
  apply Array.ext
  · simp [madeCells]
  · intro i h1 h2
    simp [madeCells, Nat.mod_one]
theorem mkS {P : Program} {T e : TypeId} {z : Value} {b : Nat} (hu : P.underlying T = some (.slice e)) (hi : (P.info? e).map (fun i => (i.zero, i.size, i.bytes)) = some (some z, 1, b)) (hz : z.cells = #[z]) (hb : b ≤ 8) (a : Int) (n : Nat) (ha : a = (n : Int)) (hn : n ≤ 1000000000) (w : World) :
    (Instr.makeSlice T (.int .i64 a) (.int .i64 a)).run P w = .ok (.slice (some ⟨w.heap.size, 0, none⟩) n n) (w.alloc (.cells (Array.replicate n z) e)) := by
  subst ha
  obtain ⟨i, hq, h1, h2, h3⟩ := info_parts hi
  have h4 : (i.bytes : Int) * (n : Int) ≤ 281474976710656 := by
    have h5 : i.bytes * n ≤ 8 * 1000000000 := Nat.mul_le_mul (by omega) hn
    have h6 : ((i.bytes * n : Nat) : Int) ≤ 281474976710656 := by omega
    rwa [Int.natCast_mul] at h6
  have hr := run_make (P := P) w T e i z hu hq h1 .i64 .i64 (n : Int) (n : Int) (by omega) (Int.le_refl _) h4 (by omega)
  rw [hr, Int.toNat_natCast, h2, Nat.mul_one, made_one z hz]
end Go.Proofs.YtohballfhhndbaaDoor
