/-
  The struct parameters of the laws, opened field by field.
  Conditions: none.
-/
import Derived.Test.YtnajjofaijpciaaProg
import Derived.Test.YtnajjofaijpciaaOpenB
set_option linter.unusedVariables false
namespace Go.Proofs.Ytnajjofaijpciaa
open Go.ChangeShapes Go.WideShapes Go.RowKit Go.G8
theorem cells_int64 : Try.prog.cellsOf 2 = 1 := by kernel_rfl
section
variable {H : Type} {enc : TypeId × Value → H} {w w0 : World} {base b0 : Nat} {held : Bool} {r : Reach} {v : Value} {d : DataW H} {p : List MemPlace}
theorem csz_Field : Try.prog.cellsOf 32 = 3 := by kernel_rfl
set_option maxRecDepth 100000 in
theorem open_Field (hv : Value.okWide Try.prog w0 r b0 32 v) (h : DataW.Trod enc Try.prog w base (fun _ => true) held 32 v d p) :
    ∃ a b c : Int, v = .agg #[.int .i64 a, .int .i64 b, .int .i64 c] ∧ fits .i64 a ∧ fits .i64 b ∧ fits .i64 c := by
  obtain ⟨cs, rfl, hsz⟩ := okWide_struct Try.underlying32 hv
  obtain ⟨c0, c1, c2, rfl⟩ := arr3 cs (hsz.trans csz_Field)
  obtain ⟨fuel, hf⟩ := h
  obtain ⟨n0, y0, h0⟩ := trod_at Try.underlying32 hf 0 _ rfl
  obtain ⟨n1, y1, h1⟩ := trod_at Try.underlying32 hf 1 _ rfl
  obtain ⟨n2, y2, h2⟩ := trod_at Try.underlying32 hf 2 _ rfl
  obtain ⟨a, e0, f0⟩ := int_of Try.underlying2 h0
  obtain ⟨b, e1, f1⟩ := int_of Try.underlying2 h1
  obtain ⟨c, e2, f2⟩ := int_of Try.underlying2 h2
  simp [Value.cells, cells_int64] at e0 e1 e2
  subst e0 e1 e2
  exact ⟨a, b, c, rfl, f0, f1, f2⟩
end
end Go.Proofs.Ytnajjofaijpciaa
