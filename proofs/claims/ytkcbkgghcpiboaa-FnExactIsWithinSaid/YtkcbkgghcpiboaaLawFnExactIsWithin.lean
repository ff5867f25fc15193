/-
  The law FnExactIsWithin holds at every input.
  Conditions: none.
-/
import Derived.Test.YtkcbkgghcpiboaaWithin
import Derived.Test.YtkcbkgghcpiboaaToCode
set_option linter.unusedVariables false
namespace Go.Proofs.Ytkcbkgghcpiboaa
open Go.RowKit Go.G8
set_option maxHeartbeats 1000000 in
theorem law_FnExactIsWithin (p q y l k a0 a1 : Int) (w : World) (h0 : fits .i64 p) (h1 : fits .i64 q) (h2 : fits .i64 y) (h3 : fits .i64 l) (h4 : fits .i64 k) (ha0 : fits .i64 a0) (ha1 : fits .i64 a1) :
    Calls Try.prog 7 #[.agg #[.int .i64 p, .int .i64 q, .int .i64 y, .int .i64 l, .int .i64 k], .int .i64 a0, .int .i64 a1] w (Ret (.bool true) w) := by
  have hi_l : -9223372036854775808 ≤ l ∧ l ≤ 9223372036854775807 := h3
  go_enter Try.func7, Try.ntmps7
  go_wp2_with fail
  refine (toCode_any p q y l k _).mono ?_
  rintro e w1 ⟨rfl, hb1⟩
  go_wp2_with fail
  refine (isWithin_spec p q y l k a0 a1 _ hi_l).mono ?_
  rintro e w2 ⟨rfl, hb2⟩
  have hb := bt hb1 hb2
  obtain ⟨hc, hf⟩ := bcell hb
  have c0 := (hc w.heap.size 0 (by simp)).trans (show _ = some (Value.int .i64 p) from by rw [cell_of_row _ _ _ _ _ (0, 0) (heap_alloc_new w _)]; rfl)
  have c1 := (hc w.heap.size 1 (by simp)).trans (show _ = some (Value.int .i64 q) from by rw [cell_of_row _ _ _ _ _ (0, 0) (heap_alloc_new w _)]; rfl)
  have c2 := (hc w.heap.size 2 (by simp)).trans (show _ = some (Value.int .i64 y) from by rw [cell_of_row _ _ _ _ _ (0, 0) (heap_alloc_new w _)]; rfl)
  have c3 := (hc w.heap.size 3 (by simp)).trans (show _ = some (Value.int .i64 l) from by rw [cell_of_row _ _ _ _ _ (0, 0) (heap_alloc_new w _)]; rfl)
  have c4 := (hc w.heap.size 4 (by simp)).trans (show _ = some (Value.int .i64 k) from by rw [cell_of_row _ _ _ _ _ (0, 0) (heap_alloc_new w _)]; rfl)
  clear hc hf
  go_wp2_with fail
  refine (toCode_any p q y l k _).mono ?_
  rintro e w3 ⟨rfl, hb3⟩
  go_wp2_with fail
  refine (isWithin_impl p q y l k a0 a1 _).mono ?_
  rintro e w4 ⟨rfl, hb4⟩
  go_wp2_with fail
  go_ret
  exact ⟨rfl, ((Below.refl _ _).alloc (Nat.le_refl _) _).trans ((bt (bt hb hb3) hb4).mono (by simp))⟩
end Go.Proofs.Ytkcbkgghcpiboaa
