/-
  The struct parameters of the laws, opened field by field.
  Conditions: none.
-/
import Derived.Test.YtckmenjbblgiiaaProg
import Derived.Test.YtckmenjbblgiiaaOpenB
set_option linter.unusedVariables false
namespace Go.Proofs.Ytckmenjbblgiiaa
open Go.ChangeShapes Go.WideShapes Go.RowKit Go.G8
theorem cells_int64 : Try.prog.cellsOf 2 = 1 := by kernel_rfl
section
variable {H : Type} {enc : TypeId × Value → H} {w w0 : World} {base b0 : Nat} {held : Bool} {r : Reach} {v : Value} {d : DataW H} {p : List MemPlace}
theorem cells_string : Try.prog.cellsOf 9 = 1 := by kernel_rfl
theorem csz_Part : Try.prog.cellsOf 128 = 4 := by kernel_rfl
set_option maxRecDepth 100000 in
theorem open_Part (hv : Value.okWide Try.prog w0 r b0 128 v) (h : DataW.Trod enc Try.prog w base (fun _ => true) held 128 v d p) :
    ∃ (a b c : Int) (s : ByteArray), v = .agg #[.int .i64 a, .int .i64 b, .int .i64 c, .string s] ∧ fits .i64 a ∧ fits .i64 b ∧ fits .i64 c ∧ s.size ≤ maxLen := by
  obtain ⟨cs, rfl, hsz⟩ := okWide_struct Try.underlying128 hv
  obtain ⟨c0, c1, c2, c3, rfl⟩ := arr4 cs (hsz.trans csz_Part)
  obtain ⟨fuel, hf⟩ := h
  obtain ⟨n0, y0, h0⟩ := trod_at Try.underlying128 hf 0 _ rfl
  obtain ⟨n1, y1, h1⟩ := trod_at Try.underlying128 hf 1 _ rfl
  obtain ⟨n2, y2, h2⟩ := trod_at Try.underlying128 hf 2 _ rfl
  obtain ⟨n3, y3, h3⟩ := trod_at Try.underlying128 hf 3 _ rfl
  obtain ⟨a, e0, f0⟩ := int_of Try.underlying2 h0
  obtain ⟨b, e1, f1⟩ := int_of Try.underlying2 h1
  obtain ⟨c, e2, f2⟩ := int_of Try.underlying2 h2
  obtain ⟨s, e3, f3⟩ := str_of Try.underlying9 h3
  simp [Value.cells, cells_int64, cells_string] at e0 e1 e2 e3
  subst e0 e1 e2 e3
  exact ⟨a, b, c, s, rfl, f0, f1, f2, f3⟩
theorem csz_Field : Try.prog.cellsOf 50 = 3 := by kernel_rfl
set_option maxRecDepth 100000 in
theorem open_Field (hv : Value.okWide Try.prog w0 r b0 50 v) (h : DataW.Trod enc Try.prog w base (fun _ => true) held 50 v d p) :
    ∃ a b c : Int, v = .agg #[.int .i64 a, .int .i64 b, .int .i64 c] ∧ fits .i64 a ∧ fits .i64 b ∧ fits .i64 c := by
  obtain ⟨cs, rfl, hsz⟩ := okWide_struct Try.underlying50 hv
  obtain ⟨c0, c1, c2, rfl⟩ := arr3 cs (hsz.trans csz_Field)
  obtain ⟨fuel, hf⟩ := h
  obtain ⟨n0, y0, h0⟩ := trod_at Try.underlying50 hf 0 _ rfl
  obtain ⟨n1, y1, h1⟩ := trod_at Try.underlying50 hf 1 _ rfl
  obtain ⟨n2, y2, h2⟩ := trod_at Try.underlying50 hf 2 _ rfl
  obtain ⟨a, e0, f0⟩ := int_of Try.underlying2 h0
  obtain ⟨b, e1, f1⟩ := int_of Try.underlying2 h1
  obtain ⟨c, e2, f2⟩ := int_of Try.underlying2 h2
  simp [Value.cells, cells_int64] at e0 e1 e2
  subst e0 e1 e2
  exact ⟨a, b, c, rfl, f0, f1, f2⟩
theorem cells_slice : Try.prog.cellsOf 25 = 1 := by kernel_rfl
theorem csz_Grid : Try.prog.cellsOf 38 = 3 := by kernel_rfl
set_option maxRecDepth 100000 in
theorem open_Grid (hv : Value.okWide Try.prog w0 r b0 38 v) (h : DataW.Trod enc Try.prog w base (fun _ => true) held 38 v d p) :
    ∃ (a b : Int) (s : Option Addr) (n c : Nat) (xs : List Int), v = .agg #[.int .i64 a, .int .i64 b, .slice s n c] ∧ fits .i64 a ∧ fits .i64 b ∧ Rd .i64 w s n xs ∧ n ≤ c ∧ c ≤ maxLen := by
  obtain ⟨cs, rfl, hsz⟩ := okWide_struct Try.underlying38 hv
  obtain ⟨c0, c1, c2, rfl⟩ := arr3 cs (hsz.trans csz_Grid)
  obtain ⟨fuel, hf⟩ := h
  obtain ⟨n0, y0, h0⟩ := trod_at Try.underlying38 hf 0 _ rfl
  obtain ⟨n1, y1, h1⟩ := trod_at Try.underlying38 hf 1 _ rfl
  obtain ⟨n2, y2, h2⟩ := trod_at Try.underlying38 hf 2 _ rfl
  obtain ⟨a, e0, f0⟩ := int_of Try.underlying2 h0
  obtain ⟨b, e1, f1⟩ := int_of Try.underlying2 h1
  obtain ⟨s, n, c, xs, e2, f2, f3, f4⟩ := ints_of Try.underlying25 Try.underlying2 cells_int64 h2
  simp [Value.cells, cells_int64, cells_slice] at e0 e1 e2
  subst e0 e1 e2
  exact ⟨a, b, s, n, c, xs, rfl, f0, f1, f2, f3, f4⟩
theorem cells_str8 : Try.prog.cellsOf 9 = 1 := by kernel_rfl
theorem cells_sl8 : Try.prog.cellsOf 25 = 1 := by kernel_rfl
theorem csz_Family : Try.prog.cellsOf 52 = 8 := by kernel_rfl
set_option maxRecDepth 100000 in
theorem open_Family (hv : Value.okWide Try.prog w0 r b0 52 v) (h : DataW.Trod enc Try.prog w base (fun _ => true) held 52 v d p) :
    ∃ (s : ByteArray) (K a b c : Int) (s1 : Option Addr) (n1 c1 : Nat) (xs : List Int) (co : Int) (s2 : Option Addr) (n2 c2 : Nat) (ys : List Int), v = .agg #[.string s, .int .i64 K, .int .i64 a, .int .i64 b, .int .i64 c, .slice s1 n1 c1, .int .i64 co, .slice s2 n2 c2] ∧ s.size ≤ maxLen ∧ fits .i64 K ∧ fits .i64 a ∧ fits .i64 b ∧ fits .i64 c ∧ Rd .i64 w s1 n1 xs ∧ n1 ≤ c1 ∧ c1 ≤ maxLen ∧ fits .i64 co ∧ Rd .i64 w s2 n2 ys ∧ n2 ≤ c2 ∧ c2 ≤ maxLen := by
  obtain ⟨cs, rfl, hsz⟩ := okWide_struct Try.underlying52 hv
  obtain ⟨x0, x1, x2, x3, x4, x5, x6, x7, rfl⟩ := arr8 cs (hsz.trans csz_Family)
  obtain ⟨fuel, hf⟩ := h
  obtain ⟨m0, y0, h0⟩ := trod_at Try.underlying52 hf 0 _ rfl
  obtain ⟨m1, y1, h1⟩ := trod_at Try.underlying52 hf 1 _ rfl
  obtain ⟨mf, yf, hff⟩ := trod_at Try.underlying52 hf 2 _ rfl
  obtain ⟨m5, y5, h5⟩ := trod_at Try.underlying52 hf 3 _ rfl
  obtain ⟨m6, y6, h6⟩ := trod_at Try.underlying52 hf 4 _ rfl
  obtain ⟨m7, y7, h7⟩ := trod_at Try.underlying52 hf 5 _ rfl
  obtain ⟨m2, y2, h2⟩ := trod_at Try.underlying50 hff 0 _ rfl
  obtain ⟨m3, y3, h3⟩ := trod_at Try.underlying50 hff 1 _ rfl
  obtain ⟨m4, y4, h4⟩ := trod_at Try.underlying50 hff 2 _ rfl
  obtain ⟨s, e0, f0⟩ := str_of Try.underlying9 h0
  obtain ⟨K, e1, f1⟩ := int_of Try.underlying2 h1
  obtain ⟨a, e2, f2⟩ := int_of Try.underlying2 h2
  obtain ⟨b, e3, f3⟩ := int_of Try.underlying2 h3
  obtain ⟨c, e4, f4⟩ := int_of Try.underlying2 h4
  obtain ⟨s1, n1, c1, xs, e5, f5, f5b, f5c⟩ := ints_of Try.underlying25 Try.underlying2 cells_int64 h5
  obtain ⟨co, e6, f6⟩ := int_of Try.underlying2 h6
  obtain ⟨s2, n2, c2, ys, e7, f7, f7b, f7c⟩ := ints_of Try.underlying25 Try.underlying2 cells_int64 h7
  simp [Value.cells, cells_int64, cells_str8, cells_sl8, csz_Field] at e0 e1 e2 e3 e4 e5 e6 e7
  subst e0 e1 e2 e3 e4 e5 e6 e7
  exact ⟨s, K, a, b, c, s1, n1, c1, xs, co, s2, n2, c2, ys, rfl, f0, f1, f2, f3, f4, f5, f5b, f5c, f6, f7, f7b, f7c⟩
end
end Go.Proofs.Ytckmenjbblgiiaa
