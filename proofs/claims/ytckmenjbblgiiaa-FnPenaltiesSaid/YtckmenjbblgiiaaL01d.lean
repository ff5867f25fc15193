/-
  Contracts of chapter 1 of the program and of the reference: numbers appended to bit lists.
  Conditions: named at each contract; they are bounds on lengths.
-/
import Derived.Test.YtckmenjbblgiiaaL01a
import Derived.Test.YtckmenjbblgiiaaBits
set_option linter.unusedVariables false
namespace Go.Proofs.Ytckmenjbblgiiaa
open Go.RowKit Go.G8

theorem lowBits_step {ys xs : List Int} {v : Int} {m d : Nat} (h : ys ++ lowBits v (m + 1) = xs ++ lowBits v d) : (ys ++ [v / 2 ^ m % 2]) ++ lowBits v m = xs ++ lowBits v d := by
  rw [← h]; simp [lowBits]
end Go.Proofs.Ytckmenjbblgiiaa
