/-
  Contracts: the index of a pattern, by the reference.
  Conditions: none.
-/
import Derived.Test.YtckmenjbblgiiaaPatD
import Derived.Test.YtckmenjbblgiiaaBits
set_option linter.unusedVariables false
namespace Go.Proofs.Ytckmenjbblgiiaa
open Go.RowKit Go.G8
/-- The first index at which a list of lists holds a list. -/
def find0 (vs : List Int) : List (List Int) → Nat → Option Nat
  | [], _ => none
  | r :: rs, k => if r = vs then some k else find0 vs rs (k + 1)
def rPatternIndex (vs : List Int) : Int × Int := match find0 vs allP 0 with | none => (0, 4) | some k => (k, 0)
theorem find0_step {vs r : List Int} {rs : List (List Int)} {k : Nat} (j : Nat) (hr : rs[k]? = some r) : find0 vs (rs.drop k) j = if r = vs then some j else find0 vs (rs.drop (k + 1)) (j + 1) := by
  obtain ⟨hk, rfl⟩ := List.getElem?_eq_some_iff.1 hr
  rw [List.drop_eq_getElem_cons hk]
  rfl
end Go.Proofs.Ytckmenjbblgiiaa
