/-
  The law FnExactMaskTurns holds at every input.
  Conditions: none.
-/
import Derived.Test.YtagdkaigdehohaaMask
set_option linter.unusedVariables false
namespace Go.Proofs.Ytagdkaigdehohaa
open Go.RowKit Go.G8
set_option maxHeartbeats 1000000 in
theorem law_FnExactMaskTurns (a0 : Int) (a1 : Int) (a2 : Int) (w : World) (h0 : fits .i64 a0) (h1 : fits .i64 a1) (h2 : fits .i64 a2) :
    Calls Try.prog 3 #[.int .i64 a0, .int .i64 a1, .int .i64 a2] w (Ret (.bool true) w) := by
  have hi_a0 : -9223372036854775808 ≤ a0 ∧ a0 ≤ 9223372036854775807 := h0
  have hi_a1 : -9223372036854775808 ≤ a1 ∧ a1 ≤ 9223372036854775807 := h1
  have hi_a2 : -9223372036854775808 ≤ a2 ∧ a2 ≤ 9223372036854775807 := h2
  have HB := Below.refl w.heap.size w
  go_enter Try.func3, Try.ntmps3
  go_wp2_with fail
  refine (specMaskTurns_any a0 a1 a2 _ ).mono ?_
  rintro e w' ⟨rfl, rfl⟩
  go_wp2_with fail
  refine (implMaskTurns_any a0 a1 a2 _ hi_a0).mono ?_
  rintro e W2 ⟨rfl, hq2⟩
  replace HB := bt HB hq2
  clear hq2
  go_wp2_with fail
  go_ret
  exact ⟨rfl, HB⟩
end Go.Proofs.Ytagdkaigdehohaa
