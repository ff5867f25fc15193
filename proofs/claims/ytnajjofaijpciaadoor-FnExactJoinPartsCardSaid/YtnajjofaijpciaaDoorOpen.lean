/-
  The struct parameters of the laws, opened field by field.
  Conditions: none.
-/
import Derived.Test.YtnajjofaijpciaaDoorProg
import Derived.Test.YtnajjofaijpciaaDoorOpenB
set_option linter.unusedVariables false
namespace Go.Proofs.YtnajjofaijpciaaDoor
open Go.ChangeShapes Go.WideShapes Go.RowKit Go.G8
theorem cells_int64 : Tryd.prog.cellsOf 2 = 1 := by kernel_rfl
section
variable {H : Type} {enc : TypeId × Value → H} {w w0 : World} {base b0 : Nat} {held : Bool} {r : Reach} {v : Value} {d : DataW H} {p : List MemPlace}
theorem cells_string : Tryd.prog.cellsOf 9 = 1 := by kernel_rfl
theorem csz_Part : Tryd.prog.cellsOf 32 = 4 := by kernel_rfl
set_option maxRecDepth 100000 in
theorem open_Part (hv : Value.okWide Tryd.prog w0 r b0 32 v) (h : DataW.Trod enc Tryd.prog w base (fun _ => true) held 32 v d p) :
    ∃ (a b c : Int) (s : ByteArray), v = .agg #[.int .i64 a, .int .i64 b, .int .i64 c, .string s] ∧ fits .i64 a ∧ fits .i64 b ∧ fits .i64 c ∧ s.size ≤ maxLen := by
  obtain ⟨cs, rfl, hsz⟩ := okWide_struct Tryd.underlying32 hv
  obtain ⟨c0, c1, c2, c3, rfl⟩ := arr4 cs (hsz.trans csz_Part)
  obtain ⟨fuel, hf⟩ := h
  obtain ⟨n0, y0, h0⟩ := trod_at Tryd.underlying32 hf 0 _ rfl
  obtain ⟨n1, y1, h1⟩ := trod_at Tryd.underlying32 hf 1 _ rfl
  obtain ⟨n2, y2, h2⟩ := trod_at Tryd.underlying32 hf 2 _ rfl
  obtain ⟨n3, y3, h3⟩ := trod_at Tryd.underlying32 hf 3 _ rfl
  obtain ⟨a, e0, f0⟩ := int_of Tryd.underlying2 h0
  obtain ⟨b, e1, f1⟩ := int_of Tryd.underlying2 h1
  obtain ⟨c, e2, f2⟩ := int_of Tryd.underlying2 h2
  obtain ⟨s, e3, f3⟩ := str_of Tryd.underlying9 h3
  simp [Value.cells, cells_int64, cells_string] at e0 e1 e2 e3
  subst e0 e1 e2 e3
  exact ⟨a, b, c, s, rfl, f0, f1, f2, f3⟩
end
end Go.Proofs.YtnajjofaijpciaaDoor
