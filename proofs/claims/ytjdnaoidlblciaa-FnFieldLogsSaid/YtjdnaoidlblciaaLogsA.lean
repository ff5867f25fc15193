/-
  Products of elements are powers of the generator with the sums of the logarithms.
  Conditions: none.
-/
import Derived.Test.YtjdnaoidlblciaaFieldInv
set_option linter.unusedVariables false
namespace Go.Proofs.Ytjdnaoidlblciaa
open Go.RowKit Go.G8
theorem codeF_one {p q y a : Int} (h : fieldB p q y = true) (ha : 0 ≤ a ∧ a ≤ fsize p q - 1) : codeF p q y [a] = 0 := by
  refine codeF_ok h ?_
  simp only [allF, List.all_cons, List.all_nil, Bool.and_true, inF, decide_eq_true_eq]
  exact ha
theorem logs_left {p q y b : Int} (h : codeF p q y [0, b] = 0) : rLog p q y 0 = (0, 5) ∧ fMul p q y 0 b = 0 := by
  obtain ⟨h1, h2, h3⟩ := codeF_zero2 h
  exact ⟨rLog_zero (codeF_one h1 h2) rfl, (field_facts h1).left0 b⟩
theorem logs_right {p q y a : Int} (h : codeF p q y [a, 0] = 0) (h0 : a ≠ 0) : (∃ i : Nat, rLog p q y a = ((i : Int), 0)) ∧ rLog p q y 0 = (0, 5) ∧ fMul p q y a 0 = 0 := by
  obtain ⟨h1, h2, h3⟩ := codeF_zero2 h
  obtain ⟨i, hi, ea, la⟩ := (field_facts h1).elem h2 h0
  exact ⟨⟨i, (rLog_ok (codeF_one h1 h2) h0).trans (by rw [la])⟩, rLog_zero (codeF_one h1 h3) rfl, fMul_right0 p q y a⟩
theorem logs_of {p q y a b : Int} (h : codeF p q y [a, b] = 0) (ha : a ≠ 0) (hb : b ≠ 0) :
    ∃ i j : Nat, i ≤ 1019 ∧ j ≤ 1019 ∧ rLog p q y a = ((i : Int), 0) ∧ rLog p q y b = ((j : Int), 0) ∧ rPow p q y (genR q y) ((i : Int) + j) = (fMul p q y a b, 0) := by
  obtain ⟨h1, h2, h3⟩ := codeF_zero2 h
  have F := field_facts h1
  obtain ⟨i, hi, ea, la⟩ := F.elem h2 ha
  obtain ⟨j, hj, eb, lb⟩ := F.elem h3 hb
  have hs := F.small
  have hz := F.size
  have hg := gen_seq h1
  have hr := F.rng 1
  have hgo : codeF p q y [genR q y] = 0 := codeF_one h1 (by rw [hg]; omega)
  refine ⟨i, j, by omega, by omega, (rLog_ok (codeF_one h1 h2) ha).trans (by rw [la]), (rLog_ok (codeF_one h1 h3) hb).trans (by rw [lb]), ?_⟩
  rw [rPow_ok hgo (by omega), hg, show ((i : Int) + j).toNat = i + j by omega, F.pow 1 (i + j) (by omega), Nat.one_mul]
  have := F.mul i j
  rw [← ea, ← eb] at this
  rw [this]
end Go.Proofs.Ytjdnaoidlblciaa
