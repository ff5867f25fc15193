/-
  The struct parameters of the laws, opened field by field.
  Conditions: none.
-/
import Derived.Test.YtckmenjbblgiiaaProg
import Derived.Test.YtckmenjbblgiiaaOpenB
set_option linter.unusedVariables false
namespace Go.Proofs.Ytckmenjbblgiiaa
open Go.ChangeShapes Go.WideShapes Go.RowKit Go.G8
theorem cells_int64 : Try.prog.cellsOf 2 = 1 := by kernel_rfl
section
variable {H : Type} {enc : TypeId × Value → H} {w w0 : World} {base b0 : Nat} {held : Bool} {r : Reach} {v : Value} {d : DataW H} {p : List MemPlace}
theorem cells_string : Try.prog.cellsOf 9 = 1 := by kernel_rfl
theorem csz_Part : Try.prog.cellsOf 128 = 4 := by kernel_rfl
set_option maxRecDepth 100000 in
theorem open_Part (hv : Value.okWide Try.prog w0 r b0 128 v) (h : DataW.Trod enc Try.prog w base (fun _ => true) held 128 v d p) :
    ∃ (a b c : Int) (s : ByteArray), v = .agg #[.int .i64 a, .int .i64 b, .int .i64 c, .string s] ∧ fits .i64 a ∧ fits .i64 b ∧ fits .i64 c ∧ s.size ≤ maxLen := by
  obtain ⟨cs, rfl, hsz⟩ := okWide_struct Try.underlying128 hv
  obtain ⟨c0, c1, c2, c3, rfl⟩ := arr4 cs (hsz.trans csz_Part)
  obtain ⟨fuel, hf⟩ := h
  obtain ⟨n0, y0, h0⟩ := trod_at Try.underlying128 hf 0 _ rfl
  obtain ⟨n1, y1, h1⟩ := trod_at Try.underlying128 hf 1 _ rfl
  obtain ⟨n2, y2, h2⟩ := trod_at Try.underlying128 hf 2 _ rfl
  obtain ⟨n3, y3, h3⟩ := trod_at Try.underlying128 hf 3 _ rfl
  obtain ⟨a, e0, f0⟩ := int_of Try.underlying2 h0
  obtain ⟨b, e1, f1⟩ := int_of Try.underlying2 h1
  obtain ⟨c, e2, f2⟩ := int_of Try.underlying2 h2
  obtain ⟨s, e3, f3⟩ := str_of Try.underlying9 h3
  simp [Value.cells, cells_int64, cells_string] at e0 e1 e2 e3
  subst e0 e1 e2 e3
  exact ⟨a, b, c, s, rfl, f0, f1, f2, f3⟩
theorem csz_Field : Try.prog.cellsOf 50 = 3 := by kernel_rfl
set_option maxRecDepth 100000 in
theorem open_Field (hv : Value.okWide Try.prog w0 r b0 50 v) (h : DataW.Trod enc Try.prog w base (fun _ => true) held 50 v d p) :
    ∃ a b c : Int, v = .agg #[.int .i64 a, .int .i64 b, .int .i64 c] ∧ fits .i64 a ∧ fits .i64 b ∧ fits .i64 c := by
  obtain ⟨cs, rfl, hsz⟩ := okWide_struct Try.underlying50 hv
  obtain ⟨c0, c1, c2, rfl⟩ := arr3 cs (hsz.trans csz_Field)
  obtain ⟨fuel, hf⟩ := h
  obtain ⟨n0, y0, h0⟩ := trod_at Try.underlying50 hf 0 _ rfl
  obtain ⟨n1, y1, h1⟩ := trod_at Try.underlying50 hf 1 _ rfl
  obtain ⟨n2, y2, h2⟩ := trod_at Try.underlying50 hf 2 _ rfl
  obtain ⟨a, e0, f0⟩ := int_of Try.underlying2 h0
  obtain ⟨b, e1, f1⟩ := int_of Try.underlying2 h1
  obtain ⟨c, e2, f2⟩ := int_of Try.underlying2 h2
  simp [Value.cells, cells_int64] at e0 e1 e2
  subst e0 e1 e2
  exact ⟨a, b, c, rfl, f0, f1, f2⟩
theorem cells_slice : Try.prog.cellsOf 25 = 1 := by kernel_rfl
theorem csz_Grid : Try.prog.cellsOf 38 = 3 := by kernel_rfl
set_option maxRecDepth 100000 in
theorem open_Grid (hv : Value.okWide Try.prog w0 r b0 38 v) (h : DataW.Trod enc Try.prog w base (fun _ => true) held 38 v d p) :
    ∃ (a b : Int) (s : Option Addr) (n c : Nat) (xs : List Int), v = .agg #[.int .i64 a, .int .i64 b, .slice s n c] ∧ fits .i64 a ∧ fits .i64 b ∧ Rd .i64 w s n xs ∧ n ≤ c ∧ c ≤ maxLen := by
  obtain ⟨cs, rfl, hsz⟩ := okWide_struct Try.underlying38 hv
  obtain ⟨c0, c1, c2, rfl⟩ := arr3 cs (hsz.trans csz_Grid)
  obtain ⟨fuel, hf⟩ := h
  obtain ⟨n0, y0, h0⟩ := trod_at Try.underlying38 hf 0 _ rfl
  obtain ⟨n1, y1, h1⟩ := trod_at Try.underlying38 hf 1 _ rfl
  obtain ⟨n2, y2, h2⟩ := trod_at Try.underlying38 hf 2 _ rfl
  obtain ⟨a, e0, f0⟩ := int_of Try.underlying2 h0
  obtain ⟨b, e1, f1⟩ := int_of Try.underlying2 h1
  obtain ⟨s, n, c, xs, e2, f2, f3, f4⟩ := ints_of Try.underlying25 Try.underlying2 cells_int64 h2
  simp [Value.cells, cells_int64, cells_slice] at e0 e1 e2
  subst e0 e1 e2
  exact ⟨a, b, s, n, c, xs, rfl, f0, f1, f2, f3, f4⟩
end
end Go.Proofs.Ytckmenjbblgiiaa
