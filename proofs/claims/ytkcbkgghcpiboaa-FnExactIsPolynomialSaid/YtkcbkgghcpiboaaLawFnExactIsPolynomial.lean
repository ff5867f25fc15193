/-
  The law FnExactIsPolynomial holds at every input.
  Conditions: none.
-/
import Derived.Test.YtkcbkgghcpiboaaPolyIs
import Derived.Test.YtkcbkgghcpiboaaFieldT
import Derived.Test.YtkcbkgghcpiboaaLib
set_option linter.unusedVariables false
namespace Go.Proofs.Ytkcbkgghcpiboaa
open Go.RowKit Go.G8
set_option maxHeartbeats 1000000 in
theorem law_FnExactIsPolynomial (f00 f01 f02 : Int) (a1 : Option Addr) (n1 c1 : Nat) (x1 : List Int) (w : World) (hf00 : fits .i64 f00) (hf01 : fits .i64 f01) (hf02 : fits .i64 f02) (h1 : Rd .i64 w a1 n1 x1) :
    Calls Try.prog 8 #[.agg #[.int .i64 f00, .int .i64 f01, .int .i64 f02], .slice a1 n1 c1] w (Ret (.bool true) w) := by
  by_cases hbig0 : 1048576 < n1
  · go_enter Try.func8, Try.ntmps8
    go_wp2
    go_ret
    exact ⟨rfl, by first | exact Below.refl _ _ | exact Below.alloc (Below.refl _ _) (Nat.le_refl _) _⟩
  · skip
    have hi_f00 : -9223372036854775808 ≤ f00 ∧ f00 ≤ 9223372036854775807 := hf00
    have hi_f01 : -9223372036854775808 ≤ f01 ∧ f01 ≤ 9223372036854775807 := hf01
    have hi_f02 : -9223372036854775808 ≤ f02 ∧ f02 ≤ 9223372036854775807 := hf02
    go_enter Try.func8, Try.ntmps8
    go_wp2_with fail
    have hw0 : Below w.heap.size w (w.alloc (.cells #[.int .i64 f00, .int .i64 f01, .int .i64 f02] 23)) := Below.alloc (Below.refl _ _) (Nat.le_refl _) _
    have hlt0 : w.heap.size < (w.alloc (.cells #[.int .i64 f00, .int .i64 f01, .int .i64 f02] 23)).heap.size := by simp
    have cc0 : (w.alloc (.cells #[.int .i64 f00, .int .i64 f01, .int .i64 f02] 23)).cell? ⟨w.heap.size, 0, none⟩ = some (.int .i64 f00) := by rw [cell_of_row _ _ _ _ _ (0, 0) (heap_alloc_new w _)]; rfl
    have cc1 : (w.alloc (.cells #[.int .i64 f00, .int .i64 f01, .int .i64 f02] 23)).cell? ⟨w.heap.size, 1, none⟩ = some (.int .i64 f01) := by rw [cell_of_row _ _ _ _ _ (0, 0) (heap_alloc_new w _)]; rfl
    have cc2 : (w.alloc (.cells #[.int .i64 f00, .int .i64 f01, .int .i64 f02] 23)).cell? ⟨w.heap.size, 2, none⟩ = some (.int .i64 f02) := by rw [cell_of_row _ _ _ _ _ (0, 0) (heap_alloc_new w _)]; rfl
    generalize (w.alloc (.cells #[.int .i64 f00, .int .i64 f01, .int .i64 f02] 23)) = W0 at *
    replace h1 := h1.to hw0
    have HB := Below.refl W0.heap.size W0
    refine (toField_any f00 f01 f02 _).mono ?_
    rintro e W1 ⟨rfl, hq1⟩
    replace HB := bt HB hq1
    clear hq1
    go_wp2_with fail
    refine (toInt64S_any a1 n1 c1 x1 _ (h1.to HB) (by omega)).mono ?_
    rintro e W2 ⟨a2r, n2r, c2r, rfl, ho2, hb2⟩
    replace ho2 := ho2.more HB.size
    replace HB := bt HB hb2
    clear hb2
    have hn2 : n2r ≤ 1048576 := by have e1 := ho2.len; have e2 := h1.len; omega
    go_wp2_with fail
    refine (isPolynomial_spec f00 f01 f02 a2r n2r c2r x1 _ (ho2.rd h1.2) (by omega)).mono ?_
    rintro e W3 ⟨rfl, hq3⟩
    replace ho2 := ho2.keep hq3
    replace HB := bt HB hq3
    clear hq3
    go_wp2_with fail
    refine (toInt64S_any a1 n1 c1 x1 _ (h1.to HB) (by omega)).mono ?_
    rintro e W4 ⟨a4r, n4r, c4r, rfl, ho4, hb4⟩
    have ap2_4 := apart_new ho2 ho4
    replace ho2 := ho2.keep hb4
    replace ho4 := ho4.more HB.size
    replace HB := bt HB hb4
    clear hb4
    have hn4 : n4r ≤ 1048576 := by have e1 := ho4.len; have e2 := h1.len; omega
    have d0 := (HB.cell (p := ⟨w.heap.size, 0, none⟩) hlt0).trans cc0
    have d1 := (HB.cell (p := ⟨w.heap.size, 1, none⟩) hlt0).trans cc1
    have d2 := (HB.cell (p := ⟨w.heap.size, 2, none⟩) hlt0).trans cc2
    go_wp2_with fail
    refine (toField_any f00 f01 f02 _).mono ?_
    rintro e W5 ⟨rfl, hq5⟩
    clear d0 d1 d2
    replace ho2 := ho2.keep hq5
    replace ho4 := ho4.keep hq5
    replace HB := bt HB hq5
    clear hq5
    go_wp2_with fail
    refine (isPolynomial_impl f00 f01 f02 a4r n4r c4r x1 _ (ho4.rd h1.2) (by omega)).mono ?_
    rintro e W6 ⟨rfl, hq6⟩
    replace ho2 := ho2.keep hq6
    replace ho4 := ho4.keep hq6
    replace HB := bt HB hq6
    clear hq6
    go_wp2_with fail
    refine (toInt64S_any a1 n1 c1 x1 _ (h1.to HB) (by omega)).mono ?_
    rintro e W7 ⟨a7r, n7r, c7r, rfl, ho7, hb7⟩
    have ap2_7 := apart_new ho2 ho7
    have ap4_7 := apart_new ho4 ho7
    replace ho2 := ho2.keep hb7
    replace ho4 := ho4.keep hb7
    replace ho7 := ho7.more HB.size
    replace HB := bt HB hb7
    clear hb7
    have hn7 : n7r ≤ 1048576 := by have e1 := ho7.len; have e2 := h1.len; omega
    go_wp2_with fail
    refine (eqInt64S_same a4r a7r n4r n7r c4r c7r x1 _ (ho4.rd h1.2) (ho7.rd h1.2) (by omega)).mono ?_
    rintro e W8 ⟨rfl, hq8⟩
    replace hq8 := below_q hq8
    replace ho2 := ho2.keep hq8
    replace ho4 := ho4.keep hq8
    replace ho7 := ho7.keep hq8
    replace HB := bt HB hq8
    clear hq8
    go_wp2_with fail
    go_ret
    exact ⟨rfl, bt hw0 HB⟩
end Go.Proofs.Ytkcbkgghcpiboaa
