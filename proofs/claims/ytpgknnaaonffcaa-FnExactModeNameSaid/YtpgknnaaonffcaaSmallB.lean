/-
  The law FnExactModeName holds at every input.
  Conditions: none.
-/
import Derived.Test.YtpgknnaaonffcaaLib
set_option linter.unusedVariables false
namespace Go.Proofs.Ytpgknnaaonffcaa
open Go.RowKit Go.G8
theorem modeName_no (a0 : Int) (w : World) (h : ¬ (0 ≤ a0 ∧ a0 ≤ 5)) (hf : -9223372036854775808 ≤ a0 ∧ a0 ≤ 9223372036854775807) : Calls Try.prog 6 #[.int .i64 a0] w (Ret (.bool true) w) := by
  obtain ⟨hf1, hf2⟩ := hf
  by_cases h1 : 0 ≤ a0
  · have h2 : 5 < a0 := by omega
    have hd : decide (a0 ≤ 5) = false := by simp; omega
    clear h
    go_enter Try.func6, Try.ntmps6
    go_wp2
    go_ret
    refine ⟨rfl, ?_⟩
    (repeat' (first | exact Below.refl _ _ | exact Nat.le_refl _ | omega | (refine Below.setCell ?_ ?_ _) | (refine Below.alloc ?_ ?_ _) | (refine Below.drew ?_) | (simp; done) | (simp; omega)))
  · have h2 : a0 < 0 := by omega
    clear h h1
    go_enter Try.func6, Try.ntmps6
    go_wp2
    go_ret
    refine ⟨rfl, ?_⟩
    (repeat' (first | exact Below.refl _ _ | exact Nat.le_refl _ | omega | (refine Below.setCell ?_ ?_ _) | (refine Below.alloc ?_ ?_ _) | (refine Below.drew ?_) | (simp; done) | (simp; omega)))
set_option maxHeartbeats 2000000 in
theorem law_FnExactModeName (a0 : Int) (w : World) (h0 : fits .i64 a0) : Calls Try.prog 6 #[.int .i64 a0] w (Ret (.bool true) w) := by
  by_cases h : 0 ≤ a0 ∧ a0 ≤ 5
  · obtain rfl | rfl | rfl | rfl | rfl | rfl : a0 = 0 ∨ a0 = 1 ∨ a0 = 2 ∨ a0 = 3 ∨ a0 = 4 ∨ a0 = 5 := by omega
    all_goals
      clear h h0
      go_enter Try.func6, Try.ntmps6
      go_wp2
      go_ret
      refine ⟨rfl, ?_⟩
      (repeat' (first | exact Below.refl _ _ | exact Nat.le_refl _ | omega | (refine Below.setCell ?_ ?_ _) | (refine Below.alloc ?_ ?_ _) | (refine Below.drew ?_) | (simp; done) | (simp; omega)))
  · exact modeName_no a0 w h h0
end Go.Proofs.Ytpgknnaaonffcaa
