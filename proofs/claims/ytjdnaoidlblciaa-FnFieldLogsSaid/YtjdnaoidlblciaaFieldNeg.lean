/-
  Contracts: the negative of an element, by the reference and by the program.
  Conditions: none.
-/
import Derived.Test.YtjdnaoidlblciaaElemB
set_option linter.unusedVariables false
namespace Go.Proofs.Ytjdnaoidlblciaa
open Go.RowKit Go.G8
def negR (p q a : Int) : Int := if q = 1 then (p - a) % p else a
def rNeg (p q y a : Int) : Int × Int := if codeF p q y [a] = 0 then (negR p q a, 0) else (0, codeF p q y [a])
theorem codeF_zero {p q y a : Int} (h : codeF p q y [a] = 0) : fieldB p q y = true ∧ 0 ≤ a ∧ a ≤ fsize p q - 1 := by
  unfold codeF at h
  split at h
  · rename_i h1
    split at h
    · rename_i h2
      simp only [allF, List.all_cons, List.all_nil, Bool.and_true, inF, decide_eq_true_eq] at h2
      exact ⟨h1, h2⟩
    · omega
  · omega
theorem rd_one (w : World) (T : TypeId) (a : Int) (ha : -9223372036854775808 ≤ a ∧ a ≤ 9223372036854775807) : Rd .i64 (w.alloc (.cells #[.int .i64 a] T)) (some ⟨w.heap.size, 0, none⟩) 1 [a] := by
  have h := Ow.lit (K := .i64) (E := T) (xs := [a]) (B := w.heap.size) w (Nat.le_refl _) (by simp)
  exact h.rd (fun x hx => by simp at hx; subst hx; exact ha)
theorem ret2_r {a b : Int} {r : Int × Int} (h : r = (a, b)) : Ending.returned (.tuple #[.int .i64 a, .int .i64 b]) = .returned (.tuple #[.int .i64 r.1, .int .i64 r.2]) := by rw [h]
end Go.Proofs.Ytjdnaoidlblciaa
