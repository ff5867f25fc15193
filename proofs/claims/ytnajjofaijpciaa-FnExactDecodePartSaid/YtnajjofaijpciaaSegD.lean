/-
  Contracts of the program's modes: which there are, and widths of texts.
  Conditions: none.
-/
import Derived.Test.YtnajjofaijpciaaSegC
set_option linter.unusedVariables false
namespace Go.Proofs.Ytnajjofaijpciaa
open Go.RowKit Go.G8
theorem modeOf_1 (w : World) : Calls Try.prog 58 #[.int .i64 1] w (fun e w' => e = .returned (.tuple #[.iface 106 (.agg #[.string ⟨#[48, 49, 50, 51, 52, 53, 54, 55, 56, 57]⟩, .slice (some ⟨w.heap.size, 0, none⟩) 3 3]), .bool true]) ∧ Below w.heap.size w w' ∧ w.heap.size < w'.heap.size ∧ w'.cell? ⟨w.heap.size, 0, none⟩ = some (.int .i64 4) ∧ w'.cell? ⟨w.heap.size, 1, none⟩ = some (.int .i64 7) ∧ w'.cell? ⟨w.heap.size, 2, none⟩ = some (.int .i64 10)) := by
  go_enter Try.func58, Try.ntmps58
  go_wp2
  go_ret2
  refine ⟨rfl, Below.alloc (Below.refl _ _) (Nat.le_refl _) _, by simp, ?_, ?_, ?_⟩ <;> (rw [cell_of_row _ _ _ _ _ (0, 0) (heap_alloc_new w _)]; rfl)
theorem modeOf_2 (w : World) : Calls Try.prog 58 #[.int .i64 2] w (fun e w' => e = .returned (.tuple #[.iface 106 (.agg #[.string ⟨#[48, 49, 50, 51, 52, 53, 54, 55, 56, 57, 65, 66, 67, 68, 69, 70, 71, 72, 73, 74, 75, 76, 77, 78, 79, 80, 81, 82, 83, 84, 85, 86, 87, 88, 89, 90, 32, 33, 35, 38, 40, 41, 43, 45, 47]⟩, .slice (some ⟨w.heap.size, 0, none⟩) 2 2]), .bool true]) ∧ Below w.heap.size w w' ∧ w.heap.size < w'.heap.size ∧ w'.cell? ⟨w.heap.size, 0, none⟩ = some (.int .i64 6) ∧ w'.cell? ⟨w.heap.size, 1, none⟩ = some (.int .i64 11)) := by
  go_enter Try.func58, Try.ntmps58
  go_wp2
  go_ret2
  refine ⟨rfl, Below.alloc (Below.refl _ _) (Nat.le_refl _) _, by simp, ?_, ?_⟩ <;> (rw [cell_of_row _ _ _ _ _ (0, 0) (heap_alloc_new w _)]; rfl)
theorem modeOf_3 (w : World) : Calls Try.prog 58 #[.int .i64 3] w (fun e w' => e = .returned (.tuple #[.iface 106 (.agg #[.string ⟨#[97, 98, 99, 100, 101, 102, 103, 104, 105, 106, 107, 108, 109, 110, 111, 112, 113, 114, 115, 116, 117, 118, 119, 120, 121, 122, 32, 10, 44, 46, 39, 63]⟩, .slice (some ⟨w.heap.size, 0, none⟩) 1 1]), .bool true]) ∧ Below w.heap.size w w' ∧ w.heap.size < w'.heap.size ∧ w'.cell? ⟨w.heap.size, 0, none⟩ = some (.int .i64 5)) := by
  go_enter Try.func58, Try.ntmps58
  go_wp2
  go_ret2
  refine ⟨rfl, Below.alloc (Below.refl _ _) (Nat.le_refl _) _, by simp, ?_⟩ <;> (rw [cell_of_row _ _ _ _ _ (0, 0) (heap_alloc_new w _)]; rfl)
theorem modeOf_4 (w : World) : Calls Try.prog 58 #[.int .i64 4] w (RetS (.tuple #[.iface 108 (.agg #[]), .bool true]) w) := by
  go_enter Try.func58, Try.ntmps58
  go_wp2
  go_ret2
  exact ⟨rfl, rfl⟩
theorem modeOf_no (x : Int) (w : World) (h : ¬ (1 ≤ x ∧ x ≤ 4)) : Calls Try.prog 58 #[.int .i64 x] w (RetS (.tuple #[.iface 108 (.agg #[]), .bool false]) w) := by
  have h1 : (x == 1) = false := by rw [beq_eq_false_iff_ne]; omega
  have h2 : (x == 2) = false := by rw [beq_eq_false_iff_ne]; omega
  have h3 : (x == 3) = false := by rw [beq_eq_false_iff_ne]; omega
  have h4 : (x == 4) = false := by rw [beq_eq_false_iff_ne]; omega
  clear h
  go_enter Try.func58, Try.ntmps58
  go_wp2
  go_ret2
  exact ⟨rfl, rfl⟩
end Go.Proofs.Ytnajjofaijpciaa
