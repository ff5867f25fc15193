/-
  Contract: the law's field as the program's.
  Conditions: none.
-/
import Derived.Test.YtnajjofaijpciaaFieldH
set_option linter.unusedVariables false
namespace Go.Proofs.Ytnajjofaijpciaa
open Go.RowKit Go.G8
theorem toField_any (d l p : Int) (w : World) :
    Calls Try.prog 14 #[.agg #[.int .i64 d, .int .i64 l, .int .i64 p]] w (Ret (.agg #[.int .i64 d, .int .i64 l, .int .i64 p]) w) := by
  go_enter Try.func14, Try.ntmps14
  go_wp2
  refine bodyPost_ret (v := .agg #[.int .i64 d, .int .i64 l, .int .i64 p]) (by simp [results, Try.results14, go_sem]) rfl ⟨rfl, ?_⟩
  (repeat' (first | exact Below.refl _ _ | exact Nat.le_refl _ | omega | (refine Below.setCell ?_ ?_ _) | (refine Below.alloc ?_ ?_ _) | (refine Below.drew ?_) | (simp; done) | (simp; omega)))
end Go.Proofs.Ytnajjofaijpciaa
