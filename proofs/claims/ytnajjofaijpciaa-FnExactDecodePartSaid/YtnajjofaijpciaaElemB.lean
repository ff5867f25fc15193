/-
  Contracts: the code of a field and elements, by the reference and by the program.
  Conditions: none.
-/
import Derived.Test.YtnajjofaijpciaaElem
set_option linter.unusedVariables false
namespace Go.Proofs.Ytnajjofaijpciaa
open Go.RowKit Go.G8
theorem codeF_bad {p q y : Int} {xs : List Int} (h : fieldB p q y = false) : codeF p q y xs = 1 := by unfold codeF; rw [h]; rfl
theorem codeF_out {p q y : Int} {xs : List Int} (h : fieldB p q y = true) (h2 : allF (fsize p q) xs = false) : codeF p q y xs = 2 := by unfold codeF; rw [h, h2]; rfl
theorem codeF_ok {p q y : Int} {xs : List Int} (h : fieldB p q y = true) (h2 : allF (fsize p q) xs = true) : codeF p q y xs = 0 := by unfold codeF; rw [h, h2]; rfl
def ElemRes (T : TypeId) (p q y : Int) (xs : List Int) (w : World) (e : Ending) (w' : World) : Prop :=
  ∃ o : Option Addr, e = .returned (.tuple #[.pointer o, .int .i64 (codeF p q y xs)]) ∧ Below w.heap.size w w' ∧
    (codeF p q y xs = 0 → ∃ G, o = some ⟨G, 0, none⟩ ∧ w.heap.size ≤ G ∧ Tab T w' G (!decide (q = 1)) (fsize p q) (expT (tF p q y) (fN p q)) (logT (tF p q y) (fN p q)))
end Go.Proofs.Ytnajjofaijpciaa
