/-
  Contracts: the decimal text of an index below eight.
  Conditions: indices below eight.
-/
import Derived.Test.YtnajjofaijpciaaDoorJoinC
set_option linter.unusedVariables false
namespace Go.Proofs.YtnajjofaijpciaaDoor
open Go.RowKit Go.G8
set_option maxRecDepth 20000 in
theorem small_key (k : Nat) (hk : k < 8) (w : World) : Calls Tryd.prog 25 #[.int .i64 k] w (RetS (.string (keyB k)) w) := by
  have hc : k = 0 ∨ k = 1 ∨ k = 2 ∨ k = 3 ∨ k = 4 ∨ k = 5 ∨ k = 6 ∨ k = 7 := by omega
  rcases hc with rfl | rfl | rfl | rfl | rfl | rfl | rfl | rfl
  all_goals
    go_enter Tryd.func25, Tryd.ntmps25
    go_wp2_with fail
    go_ret
    exact ⟨rfl, rfl⟩
theorem formatIntI_key (k : Nat) (hk : k < 8) (w : World) : Calls Tryd.prog 22 #[.int .i64 k, .int .i64 10] w (RetS (.string (keyB k)) w) := by
  have h0 : decide ((0 : Int) ≤ (k : Int)) = true := by rw [decide_eq_true_eq]; omega
  have h1 : decide ((k : Int) < 100) = true := by rw [decide_eq_true_eq]; omega
  go_enter Tryd.func22, Tryd.ntmps22
  go_wp2_with fail
  refine (small_key k hk _).mono ?_
  rintro e w' ⟨rfl, rfl⟩
  go_wp2_with fail
  go_ret
  exact ⟨rfl, rfl⟩
theorem formatInt_key (k : Nat) (hk : k < 8) (w : World) : Calls Tryd.prog 14 #[.int .i64 k, .int .i64 10] w (RetS (.string (keyB k)) w) := by
  go_enter Tryd.func14, Tryd.ntmps14
  go_wp2_with fail
  refine (formatIntI_key k hk _).mono ?_
  rintro e w' ⟨rfl, rfl⟩
  go_wp2_with fail
  go_ret
  exact ⟨rfl, rfl⟩
theorem itoaI_key (k : Nat) (hk : k < 8) (w : World) : Calls Tryd.prog 23 #[.int .i64 k] w (RetS (.string (keyB k)) w) := by
  go_enter Tryd.func23, Tryd.ntmps23
  go_wp2_with fail
  refine (formatIntI_key k hk _).mono ?_
  rintro e w' ⟨rfl, rfl⟩
  go_wp2_with fail
  go_ret
  exact ⟨rfl, rfl⟩
theorem itoa_key (k : Nat) (hk : k < 8) (w : World) : Calls Tryd.prog 15 #[.int .i64 k] w (RetS (.string (keyB k)) w) := by
  go_enter Tryd.func15, Tryd.ntmps15
  go_wp2_with fail
  refine (itoaI_key k hk _).mono ?_
  rintro e w' ⟨rfl, rfl⟩
  go_wp2_with fail
  go_ret
  exact ⟨rfl, rfl⟩
end Go.Proofs.YtnajjofaijpciaaDoor
