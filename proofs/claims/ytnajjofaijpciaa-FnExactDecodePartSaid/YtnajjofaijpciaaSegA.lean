/-
  Contracts of the reference's small functions for segments: groups, widths, lengths, characters.
  Conditions: modes that write text.
-/
import Derived.Test.YtnajjofaijpciaaLib
set_option linter.unusedVariables false
namespace Go.Proofs.Ytnajjofaijpciaa
open Go.RowKit Go.G8
def gSize (m : Int) : Int := if m = 1 then 3 else if m = 2 then 2 else 1
def gBase (m : Int) : Int := if m = 1 then 10 else if m = 2 then 45 else 256
def gWidth (m n : Int) : Int := if m = 1 then (if n = 1 then 4 else if n = 2 then 7 else if n = 3 then 10 else 0) else if m = 2 then (if n = 1 then 6 else if n = 2 then 11 else 0) else if m = 3 then 5 else 8
def gChars (m : Int) : List Int := if m = 1 then [48, 49, 50, 51, 52, 53, 54, 55, 56, 57] else if m = 2 then [48, 49, 50, 51, 52, 53, 54, 55, 56, 57, 65, 66, 67, 68, 69, 70, 71, 72, 73, 74, 75, 76, 77, 78, 79, 80, 81, 82, 83, 84, 85, 86, 87, 88, 89, 90, 32, 33, 35, 38, 40, 41, 43, 45, 47] else if m = 3 then [97, 98, 99, 100, 101, 102, 103, 104, 105, 106, 107, 108, 109, 110, 111, 112, 113, 114, 115, 116, 117, 118, 119, 120, 121, 122, 32, 10, 44, 46, 39, 63] else []
theorem mode_cases {m : Int} (h : 1 ≤ m ∧ m ≤ 4) : m = 1 ∨ m = 2 ∨ m = 3 ∨ m = 4 := by omega
theorem l09Group_any (m : Int) (w : World) (h : 1 ≤ m ∧ m ≤ 4) : Calls Try.prog 55 #[.int .i64 m] w (RetS (.tuple #[.int .i64 (gSize m), .int .i64 (gBase m)]) w) := by
  rcases mode_cases h with rfl | rfl | rfl | rfl
  all_goals
    go_enter Try.func55, Try.ntmps55
    go_wp2
    go_ret2
    exact ⟨rfl, rfl⟩
theorem l09Width_any (m n : Int) (w : World) (h : 1 ≤ m ∧ m ≤ 4) (hn : 1 ≤ n ∧ n ≤ gSize m) : Calls Try.prog 56 #[.int .i64 m, .int .i64 n] w (Ret (.int .i64 (gWidth m n)) w) := by
  rcases mode_cases h with rfl | rfl | rfl | rfl
  · have hn2 : n ≤ 3 := hn.2
    have hc : n = 1 ∨ n = 2 ∨ n = 3 := by omega
    clear hn hn2
    rcases hc with rfl | rfl | rfl
    all_goals
      go_enter Try.func56, Try.ntmps56
      go_wp2
      go_ret
      exact ⟨rfl, Below.alloc (Below.refl _ _) (Nat.le_refl _) _⟩
  · have hn2 : n ≤ 2 := hn.2
    have hc : n = 1 ∨ n = 2 := by omega
    clear hn hn2
    rcases hc with rfl | rfl
    all_goals
      go_enter Try.func56, Try.ntmps56
      go_wp2
      go_ret
      exact ⟨rfl, Below.alloc (Below.refl _ _) (Nat.le_refl _) _⟩
  all_goals
    have hc : n = 1 := by have : n ≤ 1 := hn.2; omega
    subst hc
    go_enter Try.func56, Try.ntmps56
    go_wp2
    go_ret
    exact ⟨rfl, Below.refl _ _⟩
end Go.Proofs.Ytnajjofaijpciaa
