/-
  Plain facts on the field of a size: it is valid, has this size, and no smaller polynomial or generator serves.
  Conditions: none.
-/
import Derived.Test.YtckmenjbblgiiaaFieldOf
set_option linter.unusedVariables false
namespace Go.Proofs.Ytckmenjbblgiiaa
open Go.RowKit Go.G8
theorem firstFrom_spec {f : Nat → Bool} : ∀ {n k g : Nat}, firstFrom f n k = some g → f g = true ∧ k ≤ g ∧ g < k + n ∧ ∀ j, k ≤ j → j < g → f j = false := by
  intro n
  induction n with
  | zero => intro k g h; cases h
  | succ n ih =>
    intro k g h
    cases hk : f k with
    | true =>
      rw [firstFrom_yes hk] at h
      injection h with h
      subst h
      exact ⟨hk, Nat.le_refl _, by omega, fun j h1 h2 => by omega⟩
    | false =>
      rw [firstFrom_no hk] at h
      obtain ⟨h1, h2, h3, h4⟩ := ih h
      refine ⟨h1, by omega, by omega, fun j h5 h6 => ?_⟩
      rcases Nat.lt_or_ge k j with hlt | hge
      · exact h4 j hlt h6
      · obtain rfl : j = k := by omega
        exact hk
theorem noRun_all {p : Int} {g : Nat} (h : ∀ j, 2 ≤ j → j < g → runP p j = false) : noRun p g = true := by
  refine List.all_eq_true.2 (fun j hj => ?_)
  have hj2 : j < g := by simpa using hj
  by_cases h2 : j < 2
  · simp [h2]
  · rw [h j (by omega) hj2]; simp
theorem found_prime {p : Int} {g : Nat} (h : 3 ≤ p ∧ p ≤ 1021) (hp : primeB p = true) (hg : genOf p = some g) : fieldB p 1 g = true ∧ fieldB p 1 ((g : Int) - 1) = false ∧ 2 ≤ g ∧ (g : Int) < p := by
  obtain ⟨h1, h2, h3, h4⟩ := firstFrom_spec hg
  have hgp : (g : Int) < p := by omega
  refine ⟨?_, ?_, h2, hgp⟩
  · rw [fieldB_prime h hp]
    unfold leastB
    rw [decide_eq_true (show 2 ≤ (g : Int) ∧ (g : Int) < p by omega), Int.toNat_natCast, noRun_all h4, h1]
    rfl
  · rw [fieldB_prime h hp]
    unfold leastB
    by_cases h5 : g = 2
    · subst h5; rw [decide_eq_false (by omega)]; rfl
    · have h6 := h4 (g - 1) (by omega) (by omega)
      have e : ((g - 1 : Nat) : Int) = (g : Int) - 1 := by omega
      simp only [e] at h6
      rw [h6]
      simp
theorem found_bin {P y : Nat} (hP : 3 ≤ P ∧ P ≤ 8) (hy : polyOf P = some y) : fieldB 2 P y = true ∧ fieldB 2 P ((y : Int) - 1) = false ∧ 2 ^ P ≤ y ∧ y < 2 * 2 ^ P := by
  obtain ⟨h1, h2, h3, h4⟩ := firstFrom_spec hy
  refine ⟨h1, ?_, h2, by omega⟩
  by_cases h5 : y = 2 ^ P
  · rw [fieldB_two hP]
    refine binB_out ?_
    have e : ((2 ^ P : Nat) : Int) = (2 : Int) ^ P := Int.natCast_pow 2 P
    omega
  · have h6 := h4 (y - 1) (by omega) (by omega)
    have e : ((y - 1 : Nat) : Int) = (y : Int) - 1 := by have := Nat.pow_pos (n := P) (show 0 < 2 by decide); omega
    simp only [e] at h6
    exact h6
theorem loopB_res (size : Int) : ∀ (n P : Nat), 3 ≤ P → P + n = 9 → loopB size n P = ((0, 0, 0), 4) ∨ ∃ Q y : Nat, (3 ≤ Q ∧ Q ≤ 8) ∧ size = 2 ^ Q ∧ polyOf Q = some y ∧ loopB size n P = ((2, (Q : Int), (y : Int)), 0) := by
  intro n
  induction n with
  | zero => intro P _ _; exact .inl rfl
  | succ n ih =>
    intro P h3 h9
    by_cases hs : size = 2 ^ P
    · cases hy : polyOf P with
      | none => rw [loopB_none hs hy]; exact ih (P + 1) (by omega) (by omega)
      | some y => exact .inr ⟨P, y, by omega, hs, hy, loopB_some hs hy⟩
    · rw [loopB_skip hs]; exact ih (P + 1) (by omega) (by omega)
/-- What the field of a size is. -/
structure Found (size p q y : Int) : Prop where
  ok : fieldB p q y = true
  less : fieldB p q (y - 1) = false
  size : fsize p q = size
  bd : (2 ≤ p ∧ p ≤ 1021) ∧ (1 ≤ q ∧ q ≤ 8) ∧ (2 ≤ y ∧ y ≤ 1021)
theorem fieldOf_res (size : Int) : rFieldOf size = ((0, 0, 0), 4) ∨ ∃ p q y, rFieldOf size = ((p, q, y), 0) ∧ Found size p q y := by
  have hloop : loopB size 6 3 = ((0, 0, 0), 4) ∨ ∃ p q y, loopB size 6 3 = ((p, q, y), 0) ∧ Found size p q y := by
    rcases loopB_res size 6 3 (by omega) (by omega) with h | ⟨Q, y, hQ, hs, hy, h⟩
    · exact .inl h
    · obtain ⟨f1, f2, f3, f4⟩ := found_bin hQ hy
      refine .inr ⟨_, _, _, h, ⟨f1, f2, ?_, ?_⟩⟩
      · unfold fsize; rw [if_neg (by omega), Int.toNat_natCast, hs]
      · have h8 : 2 ^ Q ≤ 2 ^ 8 := Nat.pow_le_pow_right (by decide) hQ.2
        have h3 : 2 ^ 3 ≤ 2 ^ Q := Nat.pow_le_pow_right (by decide) hQ.1
        omega
  by_cases h : 3 ≤ size ∧ size ≤ 1021
  · cases hp : primeB size with
    | false => rw [rFieldOf_nop hp]; exact hloop
    | true =>
      cases hg : genOf size with
      | none => rw [rFieldOf_none hg]; exact hloop
      | some g =>
        obtain ⟨f1, f2, f3, f4⟩ := found_prime h hp hg
        exact .inr ⟨_, _, _, rFieldOf_some h hp hg, ⟨f1, f2, rfl, by omega⟩⟩
  · rw [rFieldOf_range h]; exact hloop
end Go.Proofs.Ytckmenjbblgiiaa
