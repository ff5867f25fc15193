/-
  Contract: the law's code as the program's.
  Conditions: none.
-/
import Derived.Test.YtjdnaoidlblciaaCoder
set_option linter.unusedVariables false
namespace Go.Proofs.Ytjdnaoidlblciaa
open Go.RowKit Go.G8
theorem mid_cell (w : World) (A B C : Array Value) (T1 T2 T3 : TypeId) (i : Nat) (v : Value) (hv : B[i]? = some v) :
    (((w.alloc (Obj.cells A T1)).alloc (Obj.cells B T2)).alloc (Obj.cells C T3)).cell? ⟨w.heap.size + 1, i, none⟩ = some v := by
  rw [alloc_cell_old _ _ _ _ (by simp)]
  have := cell_of_row ((w.alloc (Obj.cells A T1)).alloc (Obj.cells B T2)) (w.heap.size + 1) i B T2 (0, 0) (by have := heap_alloc_new (w.alloc (Obj.cells A T1)) (Obj.cells B T2); simpa using this)
  rw [this, hv]
set_option maxHeartbeats 1000000 in
theorem toCode_any (p q y l k : Int) (w : World) :
    Calls Try.prog 38 #[.agg #[.int .i64 p, .int .i64 q, .int .i64 y, .int .i64 l, .int .i64 k]] w (Ret (.agg #[.int .i64 p, .int .i64 q, .int .i64 y, .int .i64 l, .int .i64 k]) w) := by
  go_enter Try.func38, Try.ntmps38
  go_wp2_with fail
  refine (toField_any p q y _).mono ?_
  rintro e w1 ⟨rfl, hb1⟩
  obtain ⟨hc, hf⟩ := bcell hb1
  have hw := (Below.alloc (Below.alloc (Below.alloc (Below.refl w.heap.size w) (Nat.le_refl _) (.cells #[.int .i64 p, .int .i64 q, .int .i64 y, .int .i64 l, .int .i64 k] 46)) (by simp) (.cells #[.int .i64 0, .int .i64 0, .int .i64 0, .int .i64 0, .int .i64 0] 49)) (by simp; omega) (.cells #[.int .i64 0, .int .i64 0, .int .i64 0, .int .i64 0, .int .i64 0] 49))
  have hw1 := bt hw hb1
  have e0 := (hc (w.heap.size + 1) 0 (by simp)).trans (mid_cell w _ _ _ _ _ _ 0 (.int .i64 0) rfl)
  have e1 := (hc (w.heap.size + 1) 1 (by simp)).trans (mid_cell w _ _ _ _ _ _ 1 (.int .i64 0) rfl)
  have e2 := (hc (w.heap.size + 1) 2 (by simp)).trans (mid_cell w _ _ _ _ _ _ 2 (.int .i64 0) rfl)
  have e3 := (hc (w.heap.size + 1) 3 (by simp)).trans (mid_cell w _ _ _ _ _ _ 3 (.int .i64 0) rfl)
  have e4 := (hc (w.heap.size + 1) 4 (by simp)).trans (mid_cell w _ _ _ _ _ _ 4 (.int .i64 0) rfl)
  have hsz := hb1.size
  simp at hsz
  go_wp2_with fail
  refine bodyPost_ret (v := .agg #[.int .i64 p, .int .i64 q, .int .i64 y, .int .i64 l, .int .i64 k]) (by simp [results, Try.results38, go_sem, e0, e1, e2, e3, e4]) rfl ⟨rfl, ?_⟩
  (repeat' (first | (refine Below.setCell ?_ ?_ _) | with_reducible assumption | omega))
  all_goals (simp only []; omega)
end Go.Proofs.Ytjdnaoidlblciaa
