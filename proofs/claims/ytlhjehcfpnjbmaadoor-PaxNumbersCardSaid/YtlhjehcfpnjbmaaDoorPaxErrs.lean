/- THE TWO ERRORS OF strconv, as the rows list them; and a world that holds them and the three tables. -/
import Derived.Test.YtlhjehcfpnjbmaaDoorPaxNum
import Derived.Test.YtlhjehcfpnjbmaaDoorPaxLaid
import Derived.Stop.LaidErr
import Derived.PinnedBridge
import Derived.Deep.DeepWitnessRowRef
namespace Go.Proofs.YtlhjehcfpnjbmaaDoor
open Go.ChangeShapes Go.WideShapes Go.ChangeAt Go.RowKit
theorem star : "*" ++ "errors.errorString" = "*errors.errorString" := by decide
theorem rowES (u : TypeId) (h : Tryd.prog.typeName? 3 u = some "*errors.errorString") : u = 115 :=
  typeName_ptr_named (nm := "errors.errorString") (by rw [star]; kernel_rfl) (by kernel_rfl) (by decide) u (by rw [star]; exact h)
theorem var_below {P : Program} {w w' : World} {n : String} {cs : Array Value} (h : w.var? P n = some cs) (hb : Below w.heap.size w w') : w'.var? P n = some cs := by
  unfold World.var? at *
  cases hg : P.globalNamed n with
  | none => simp [hg] at h
  | some g =>
    simp only [hg, Option.bind_some] at h ⊢
    have hlt : g < w.heap.size := by
      rcases Nat.lt_or_ge g w.heap.size with h' | h'
      · exact h'
      · rw [Array.getElem?_eq_none h'] at h; simp at h
    rw [hb.block g hlt]
    exact h
set_option maxRecDepth 100000 in
theorem errs_of_laid {W : World} {a b c : String × DataW Unit} (hL : laidMet Tryd.prog [a, b, c, ("strconv.ErrRange", Rows.laid_strconv_ErrRange), ("strconv.ErrSyntax", Rows.laid_strconv_ErrSyntax)] W) : Errs W.heap.size W := by
  have h3 := hL.tail.tail.tail
  obtain ⟨a0, s0, hv0, _⟩ := laid_sentinel (ti := 67) (tp := 115) (te := 117) (ts := 9) h3 (g := 2) (by kernel_rfl) (by kernel_rfl) Tryd.underlying67 rowES Tryd.underlying115 Tryd.underlying117 rfl rfl Tryd.underlying9 (by kernel_rfl) (by kernel_rfl)
  obtain ⟨a1, s1, hv1, _⟩ := laid_sentinel (ti := 67) (tp := 115) (te := 117) (ts := 9) h3.tail (g := 1) (by kernel_rfl) (by kernel_rfl) Tryd.underlying67 rowES Tryd.underlying115 Tryd.underlying117 rfl rfl Tryd.underlying9 (by kernel_rfl) (by kernel_rfl)
  exact ⟨_, _, _, _, fun w' hb => ⟨var_below hv1 hb, var_below hv0 hb⟩⟩
/-- an argument that is an int64 -/
theorem okI64 {P : Program} {w : World} {r : Reach} {base : Nat} {t : TypeId} {v : Value} (ht : P.underlying t = some (.int .i64)) (h : Value.okWide P w r base t v) : ∃ n : Int, v = .int .i64 n ∧ -9223372036854775808 ≤ n ∧ n ≤ 9223372036854775807 := by
  simp only [Value.okWide, ht, Cell.okWide] at h
  have hm1 : IntKind.i64.min = -9223372036854775808 := rfl
  have hm2 : IntKind.i64.max = 9223372036854775807 := rfl
  cases v <;> simp only [Cell.ok, ht] at h
  rename_i k x
  obtain ⟨rfl, h1, h2⟩ := h
  rw [hm1] at h1; rw [hm2] at h2
  exact ⟨x, rfl, h1, h2⟩
/-- A WORLD FOR THE WITNESS -/
def textOf : DataW Unit → ByteArray
  | .iface _ (.ptr (.agg [.lit (.string l)])) => ⟨l.toArray⟩
  | _ => ⟨#[]⟩
noncomputable def low5 : Nat := (World.holding Tryd.prog default ⟨#[], #[], []⟩).heap.size
noncomputable def laidWorld5 (os : Os) : World :=
  let w0 := World.holding Tryd.prog os ⟨#[.cells #[.string (textOf Rows.laid_strconv_ErrRange)] 117, .cells #[.string (textOf Rows.laid_strconv_ErrSyntax)] 117], #[], []⟩
  let h3 := Array.modify (Array.modify (Array.modify w0.heap 4 (layRow (dataCells Rows.laid_math_bits_deBruijn32tab))) 5 (layRow (dataCells Rows.laid_math_bits_deBruijn64tab))) 0 (layRow (dataCells Rows.laid_internal_strconv_uint64pow10))
  { w0 with heap := Array.modify (Array.modify h3 2 (layRow #[.iface 115 (.pointer (some ⟨low5, 0, none⟩))])) 1 (layRow #[.iface 115 (.pointer (some ⟨low5 + 1, 0, none⟩))]) }
end Go.Proofs.YtlhjehcfpnjbmaaDoor
