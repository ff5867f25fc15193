/-
  The law FnExactFieldWidth holds at every input.
  Conditions: none.
-/
import Derived.Test.YtkcbkgghcpiboaaFieldW
import Derived.Test.YtkcbkgghcpiboaaFieldT
set_option linter.unusedVariables false
namespace Go.Proofs.Ytkcbkgghcpiboaa
open Go.RowKit Go.G8
set_option maxHeartbeats 1000000 in
theorem law_FnExactFieldWidth (p q y : Int) (w : World) (h0 : fits .i64 p) (h1 : fits .i64 q) (h2 : fits .i64 y) :
    Calls Try.prog 5 #[.agg #[.int .i64 p, .int .i64 q, .int .i64 y]] w (Ret (.bool true) w) := by
  go_enter Try.func5, Try.ntmps5
  go_wp2_with fail
  refine (toField_any p q y _).mono ?_
  rintro e w1 ⟨rfl, hb1⟩
  go_wp2_with fail
  refine (fieldWidth_spec p q y _).mono ?_
  rintro e w2 ⟨rfl, hb2⟩
  have hb := bt hb1 hb2
  obtain ⟨hc, hf⟩ := bcell hb
  go_wp2_with fail
  refine (toField_any p q y _).mono ?_
  rintro e w3 ⟨rfl, hb3⟩
  go_wp2_with fail
  refine (fieldWidth_impl p q y _).mono ?_
  rintro e w4 ⟨rfl, hb4⟩
  go_wp2_with fail
  go_ret
  exact ⟨rfl, ((Below.refl _ _).alloc (Nat.le_refl _) _).trans ((bt (bt hb hb3) hb4).mono (by simp))⟩
end Go.Proofs.Ytkcbkgghcpiboaa
