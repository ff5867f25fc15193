/-
  The law FnExactFieldPow holds at every input.
  Conditions: none.
-/
import Derived.Test.YtkcbkgghcpiboaaFieldInv
import Derived.Test.YtkcbkgghcpiboaaFieldT
set_option linter.unusedVariables false
namespace Go.Proofs.Ytkcbkgghcpiboaa
open Go.RowKit Go.G8
set_option maxHeartbeats 1000000 in
theorem law_FnExactFieldPow (p q y a0 a1 : Int) (w : World) (h0 : fits .i64 p) (h1 : fits .i64 q) (h2 : fits .i64 y) (ha0 : fits .i64 a0) (ha1 : fits .i64 a1) :
    Calls Try.prog 14 #[.agg #[.int .i64 p, .int .i64 q, .int .i64 y], .int .i64 a0, .int .i64 a1] w (Ret (.bool true) w) := by
  have hi_a0 : -9223372036854775808 ≤ a0 ∧ a0 ≤ 9223372036854775807 := ha0
  have hi_a1 : -9223372036854775808 ≤ a1 ∧ a1 ≤ 9223372036854775807 := ha1
  go_enter Try.func14, Try.ntmps14
  go_wp2_with fail
  refine (toField_any p q y _).mono ?_
  rintro e w1 ⟨rfl, hb1⟩
  go_wp2_with fail
  refine (fieldPow_spec p q y a0 a1 _ hi_a0).mono ?_
  rintro e w2 ⟨rfl, hb2⟩
  have hb := bt hb1 hb2
  obtain ⟨hc, hf⟩ := bcell hb
  go_wp2_with fail
  refine (toField_any p q y _).mono ?_
  rintro e w3 ⟨rfl, hb3⟩
  go_wp2_with fail
  refine (fieldPow_impl p q y a0 a1 _ hi_a0).mono ?_
  rintro e w4 ⟨rfl, hb4⟩
  go_wp2_with fail
  go_ret
  exact ⟨rfl, ((Below.refl _ _).alloc (Nat.le_refl _) _).trans ((bt (bt hb hb3) hb4).mono (by simp))⟩
end Go.Proofs.Ytkcbkgghcpiboaa
