/-
  The struct parameters of the laws, opened field by field.
  Conditions: none.
-/
import Derived.Test.YtjdnaoidlblciaaProg
import Derived.Test.YtjdnaoidlblciaaOpenB
set_option linter.unusedVariables false
namespace Go.Proofs.Ytjdnaoidlblciaa
open Go.ChangeShapes Go.WideShapes Go.RowKit Go.G8
theorem cells_int64 : Try.prog.cellsOf 2 = 1 := by kernel_rfl
section
variable {H : Type} {enc : TypeId × Value → H} {w w0 : World} {base b0 : Nat} {held : Bool} {r : Reach} {v : Value} {d : DataW H} {p : List MemPlace}
theorem csz_Field : Try.prog.cellsOf 36 = 3 := by kernel_rfl
set_option maxRecDepth 100000 in
theorem open_Field (hv : Value.okWide Try.prog w0 r b0 36 v) (h : DataW.Trod enc Try.prog w base (fun _ => true) held 36 v d p) :
    ∃ a b c : Int, v = .agg #[.int .i64 a, .int .i64 b, .int .i64 c] ∧ fits .i64 a ∧ fits .i64 b ∧ fits .i64 c := by
  obtain ⟨cs, rfl, hsz⟩ := okWide_struct Try.underlying36 hv
  obtain ⟨c0, c1, c2, rfl⟩ := arr3 cs (hsz.trans csz_Field)
  obtain ⟨fuel, hf⟩ := h
  obtain ⟨n0, y0, h0⟩ := trod_at Try.underlying36 hf 0 _ rfl
  obtain ⟨n1, y1, h1⟩ := trod_at Try.underlying36 hf 1 _ rfl
  obtain ⟨n2, y2, h2⟩ := trod_at Try.underlying36 hf 2 _ rfl
  obtain ⟨a, e0, f0⟩ := int_of Try.underlying2 h0
  obtain ⟨b, e1, f1⟩ := int_of Try.underlying2 h1
  obtain ⟨c, e2, f2⟩ := int_of Try.underlying2 h2
  simp [Value.cells, cells_int64] at e0 e1 e2
  subst e0 e1 e2
  exact ⟨a, b, c, rfl, f0, f1, f2⟩
theorem csz_Code : Try.prog.cellsOf 46 = 5 := by kernel_rfl
set_option maxRecDepth 100000 in
theorem open_Code (hv : Value.okWide Try.prog w0 r b0 46 v) (h : DataW.Trod enc Try.prog w base (fun _ => true) held 46 v d p) :
    ∃ a b c l k : Int, v = .agg #[.int .i64 a, .int .i64 b, .int .i64 c, .int .i64 l, .int .i64 k] ∧ fits .i64 a ∧ fits .i64 b ∧ fits .i64 c ∧ fits .i64 l ∧ fits .i64 k := by
  obtain ⟨cs, rfl, hsz⟩ := okWide_struct Try.underlying46 hv
  obtain ⟨c0, c1, c2, c3, c4, rfl⟩ := arr5 cs (hsz.trans csz_Code)
  obtain ⟨fuel, hf⟩ := h
  obtain ⟨nf, yf, hff⟩ := trod_at Try.underlying46 hf 0 _ rfl
  obtain ⟨n3, y3, h3⟩ := trod_at Try.underlying46 hf 1 _ rfl
  obtain ⟨n4, y4, h4⟩ := trod_at Try.underlying46 hf 2 _ rfl
  obtain ⟨n0, y0, h0⟩ := trod_at Try.underlying36 hff 0 _ rfl
  obtain ⟨n1, y1, h1⟩ := trod_at Try.underlying36 hff 1 _ rfl
  obtain ⟨n2, y2, h2⟩ := trod_at Try.underlying36 hff 2 _ rfl
  obtain ⟨a, e0, f0⟩ := int_of Try.underlying2 h0
  obtain ⟨b, e1, f1⟩ := int_of Try.underlying2 h1
  obtain ⟨c, e2, f2⟩ := int_of Try.underlying2 h2
  obtain ⟨l, e3, f3⟩ := int_of Try.underlying2 h3
  obtain ⟨k, e4, f4⟩ := int_of Try.underlying2 h4
  simp [Value.cells, cells_int64, csz_Field] at e0 e1 e2 e3 e4
  subst e0 e1 e2 e3 e4
  exact ⟨a, b, c, l, k, rfl, f0, f1, f2, f3, f4⟩
end
end Go.Proofs.Ytjdnaoidlblciaa
