/-
  The law FnExactFieldOf holds at every input.
  Conditions: none.
-/
import Derived.Test.YtkcbkgghcpiboaaFieldOf
import Derived.Test.YtkcbkgghcpiboaaEqField
set_option linter.unusedVariables false
namespace Go.Proofs.Ytkcbkgghcpiboaa
open Go.RowKit Go.G8
set_option maxHeartbeats 1000000 in
theorem law_FnExactFieldOf (a0 : Int) (w : World) (h0 : fits .i64 a0) :
    Calls Try.prog 9 #[.int .i64 a0] w (Ret (.bool true) w) := by
  have hi_a0 : -9223372036854775808 ≤ a0 ∧ a0 ≤ 9223372036854775807 := h0
  have HS := Lib.hid (fun w => fieldOf_spec a0 w hi_a0)
  have HI := Lib.hid (fun w => fieldOf_impl a0 w hi_a0)
  obtain ⟨r, hr⟩ : ∃ r, rFieldOf a0 = r := ⟨_, rfl⟩
  rw [hr] at HS HI
  obtain ⟨⟨b1, b2, b3⟩, cd⟩ := r
  clear hr
  have hcd : (cd != cd) = false := by simp
  go_enter Try.func9, Try.ntmps9
  go_wp2_with fail
  refine (HS.out _).mono ?_
  rintro e w1 ⟨rfl, hb1⟩
  have HN := Lib.hid (new_fld w1 (.int .i64 b1) (.int .i64 b2) (.int .i64 b3) 25)
  go_wp2_with fail
  refine (HI.out _).mono ?_
  rintro e w2 ⟨rfl, hb2⟩
  obtain ⟨d0, d1, d2, d3⟩ := HN.out
  obtain ⟨g0, g1, g2⟩ := cell3 hb2 d3 d0 d1 d2
  have hB := bt hb1 (bt (Below.alloc (Below.refl w1.heap.size w1) (Nat.le_refl _) _) hb2)
  have hlt : w1.heap.size < w2.heap.size := Nat.lt_of_lt_of_le d3 hb2.size
  clear d0 d1 d2 d3 hb2 hb1 HN
  go_wp2_with fail
  refine (eqField_same b1 b2 b3 _).mono ?_
  rintro e w3 ⟨rfl, hb3⟩
  have hB3 := bt (bt hB (Below.alloc (Below.refl w2.heap.size w2) (Nat.le_refl _) _)) hb3
  go_wp2_with fail
  go_ret
  exact ⟨rfl, hB3⟩
end Go.Proofs.Ytkcbkgghcpiboaa
