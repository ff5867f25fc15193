/-
  Contracts: whether a list is a polynomial over a field, by the reference and by the program.
  Conditions: none.
-/
import Derived.Test.YtnajjofaijpciaaElemB
set_option linter.unusedVariables false
namespace Go.Proofs.Ytnajjofaijpciaa
open Go.RowKit Go.G8
theorem start3 (w : World) (a b c : Value) (T : TypeId) : Below w.heap.size w (w.alloc (.cells #[a, b, c] T)) ∧ w.heap.size < (w.alloc (.cells #[a, b, c] T)).heap.size ∧
    (w.alloc (.cells #[a, b, c] T)).cell? ⟨w.heap.size, 0, none⟩ = some a ∧ (w.alloc (.cells #[a, b, c] T)).cell? ⟨w.heap.size, 1, none⟩ = some b ∧ (w.alloc (.cells #[a, b, c] T)).cell? ⟨w.heap.size, 2, none⟩ = some c := by
  refine ⟨Below.alloc (Below.refl _ _) (Nat.le_refl _) _, by simp, ?_, ?_, ?_⟩ <;> rw [cell_of_row _ _ _ _ _ (0, 0) (heap_alloc_new w _)] <;> rfl
theorem two_blocks2 (w : World) (A B : Array Value) (T E : TypeId) (v : Value) (hB : B = #[v]) :
    Below w.heap.size w ((w.alloc (.cells A T)).alloc (.cells B E)) ∧ ((w.alloc (.cells A T)).alloc (.cells B E)).cell? ⟨w.heap.size + 1, 0, none⟩ = some v ∧
    (∀ i u, A[i]? = some u → ((w.alloc (.cells A T)).alloc (.cells B E)).cell? ⟨w.heap.size, i, none⟩ = some u) ∧ w.heap.size < ((w.alloc (.cells A T)).alloc (.cells B E)).heap.size := by
  subst hB
  refine ⟨Below.alloc (Below.alloc (Below.refl w.heap.size w) (Nat.le_refl _) _) (by simp) _, ?_, fun i u hv => ?_, by simp; omega⟩
  · have h := alloc_cell (w.alloc (.cells A T)) v E
    rw [show (w.alloc (.cells A T)).heap.size = w.heap.size + 1 by simp] at h
    exact h
  · rw [alloc_cell_old _ _ _ _ (by simp), cell_of_row _ _ _ _ _ (0, 0) (heap_alloc_new w _), hv]
def lastNZ (xs : List Int) : Bool := match xs.getLast? with | none => true | some x => x != 0
def polyB (s : Int) (xs : List Int) : Bool := decide (xs.length ≤ 512) && (allF s xs && lastNZ xs)
theorem polyB_long {s : Int} {xs : List Int} (h : ¬ xs.length ≤ 512) : polyB s xs = false := by unfold polyB; rw [decide_eq_false h]; rfl
theorem polyB_out {s : Int} {xs : List Int} (h : allF s xs = false) : polyB s xs = false := by unfold polyB; rw [h]; simp
theorem polyB_nil {s : Int} : polyB s [] = true := rfl
theorem polyB_last {s x : Int} {xs : List Int} {n : Nat} (h : xs.length ≤ 512) (h2 : allF s xs = true) (hn : xs.length = n + 1) (hx : xs[n]? = some x) : polyB s xs = (x != 0) := by
  unfold polyB lastNZ
  rw [decide_eq_true h, h2, List.getLast?_eq_getElem?, show xs.length - 1 = n by omega, hx]
  rfl
def isPolyB (p q y : Int) (xs : List Int) : Bool := fieldB p q y && polyB (fsize p q) xs
theorem isPolyB_no {p q y : Int} {xs : List Int} (h : fieldB p q y = false) : isPolyB p q y xs = false := by unfold isPolyB; rw [h]; rfl
theorem isPolyB_yes {p q y : Int} {xs : List Int} (h : fieldB p q y = true) : isPolyB p q y xs = polyB (fsize p q) xs := by unfold isPolyB; rw [h]; rfl
end Go.Proofs.Ytnajjofaijpciaa
