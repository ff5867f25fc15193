/-
  Contracts: whether a field is valid, its size, by the reference and by the program.
  Conditions: none.
-/
import Derived.Test.YtnajjofaijpciaaFieldG
set_option linter.unusedVariables false
namespace Go.Proofs.Ytnajjofaijpciaa
open Go.RowKit Go.G8
theorem binB_runs {y : Int} {P : Nat} (h : (2 : Int) ^ P ≤ y ∧ y < 2 * 2 ^ P) : binB P y = runB P y := by
  unfold binB; rw [decide_eq_true h]; simp
theorem good_of {y : Int} {P : Nat} (h : (2 : Int) ^ P ≤ y ∧ y < 2 * 2 ^ P) : Gf.Good P y.toNat := by
  obtain ⟨h1, h2⟩ := h
  have e : ((2 ^ P : Nat) : Int) = (2 : Int) ^ P := Int.natCast_pow 2 P
  have e2 : 2 ^ (P + 1) = 2 * 2 ^ P := by rw [Nat.pow_succ, Nat.mul_comm]
  exact ⟨by omega, by omega⟩
theorem isField_bin (P : Nat) (y : Int) (w : World) (hP : P = 3 ∨ P = 4 ∨ P = 5 ∨ P = 6 ∨ P = 7 ∨ P = 8) (h : (2 : Int) ^ P ≤ y ∧ y < 2 * 2 ^ P) :
    Calls Try.prog 70 #[.agg #[.int .i64 2, .int .i64 P, .int .i64 y]] w (RetB (.bool (fieldB 2 P y)) w) := by
  have hrr := (fieldB_two (y := y) (P := P) (by omega)).trans (binB_runs h)
  have hru := fun w => runs_2 P y w hP (good_of h) (by have := good_of h; rcases hP with rfl | rfl | rfl | rfl | rfl | rfl <;> omega)
  rw [hrr]
  clear hrr
  obtain ⟨r, hr⟩ : ∃ r, runB P y = r := ⟨_, rfl⟩
  rw [hr] at hru ⊢
  clear hr
  have HR := Lib.hid hru
  clear hru
  obtain ⟨h1, h2⟩ := h
  rcases hP with rfl | rfl | rfl | rfl | rfl | rfl
  · go_enter Try.func70, Try.ntmps70
    go_wp2_with fail
    refine (l01In_yes 3 3 8 _ (by omega)).mono ?_
    rintro e w' ⟨rfl, rfl⟩
    go_wp2_with fail
    refine (l01In_yes y 8 15 _ (by omega)).mono ?_
    rintro e w' ⟨rfl, rfl⟩
    go_wp2_with fail
    refine (HR.out _).mono ?_
    rintro e w1 ⟨rfl, hb1⟩
    go_wp2_with fail
    go_ret
    exact ⟨rfl, bt (Below.alloc (Below.refl _ _) (Nat.le_refl _) _) hb1⟩
  · go_enter Try.func70, Try.ntmps70
    go_wp2_with fail
    refine (l01In_yes 4 3 8 _ (by omega)).mono ?_
    rintro e w' ⟨rfl, rfl⟩
    go_wp2_with fail
    refine (l01In_yes y 16 31 _ (by omega)).mono ?_
    rintro e w' ⟨rfl, rfl⟩
    go_wp2_with fail
    refine (HR.out _).mono ?_
    rintro e w1 ⟨rfl, hb1⟩
    go_wp2_with fail
    go_ret
    exact ⟨rfl, bt (Below.alloc (Below.refl _ _) (Nat.le_refl _) _) hb1⟩
  · go_enter Try.func70, Try.ntmps70
    go_wp2_with fail
    refine (l01In_yes 5 3 8 _ (by omega)).mono ?_
    rintro e w' ⟨rfl, rfl⟩
    go_wp2_with fail
    refine (l01In_yes y 32 63 _ (by omega)).mono ?_
    rintro e w' ⟨rfl, rfl⟩
    go_wp2_with fail
    refine (HR.out _).mono ?_
    rintro e w1 ⟨rfl, hb1⟩
    go_wp2_with fail
    go_ret
    exact ⟨rfl, bt (Below.alloc (Below.refl _ _) (Nat.le_refl _) _) hb1⟩
  · go_enter Try.func70, Try.ntmps70
    go_wp2_with fail
    refine (l01In_yes 6 3 8 _ (by omega)).mono ?_
    rintro e w' ⟨rfl, rfl⟩
    go_wp2_with fail
    refine (l01In_yes y 64 127 _ (by omega)).mono ?_
    rintro e w' ⟨rfl, rfl⟩
    go_wp2_with fail
    refine (HR.out _).mono ?_
    rintro e w1 ⟨rfl, hb1⟩
    go_wp2_with fail
    go_ret
    exact ⟨rfl, bt (Below.alloc (Below.refl _ _) (Nat.le_refl _) _) hb1⟩
  · go_enter Try.func70, Try.ntmps70
    go_wp2_with fail
    refine (l01In_yes 7 3 8 _ (by omega)).mono ?_
    rintro e w' ⟨rfl, rfl⟩
    go_wp2_with fail
    refine (l01In_yes y 128 255 _ (by omega)).mono ?_
    rintro e w' ⟨rfl, rfl⟩
    go_wp2_with fail
    refine (HR.out _).mono ?_
    rintro e w1 ⟨rfl, hb1⟩
    go_wp2_with fail
    go_ret
    exact ⟨rfl, bt (Below.alloc (Below.refl _ _) (Nat.le_refl _) _) hb1⟩
  · go_enter Try.func70, Try.ntmps70
    go_wp2_with fail
    refine (l01In_yes 8 3 8 _ (by omega)).mono ?_
    rintro e w' ⟨rfl, rfl⟩
    go_wp2_with fail
    refine (l01In_yes y 256 511 _ (by omega)).mono ?_
    rintro e w' ⟨rfl, rfl⟩
    go_wp2_with fail
    refine (HR.out _).mono ?_
    rintro e w1 ⟨rfl, hb1⟩
    go_wp2_with fail
    go_ret
    exact ⟨rfl, bt (Below.alloc (Below.refl _ _) (Nat.le_refl _) _) hb1⟩
theorem isField_bout (P : Nat) (y : Int) (w : World) (hP : P = 3 ∨ P = 4 ∨ P = 5 ∨ P = 6 ∨ P = 7 ∨ P = 8) (h : ¬ ((2 : Int) ^ P ≤ y ∧ y < 2 * 2 ^ P)) :
    Calls Try.prog 70 #[.agg #[.int .i64 2, .int .i64 P, .int .i64 y]] w (RetB (.bool (fieldB 2 P y)) w) := by
  rw [(fieldB_two (y := y) (P := P) (by omega)).trans (binB_out h)]
  rcases hP with rfl | rfl | rfl | rfl | rfl | rfl
  · have hn : ¬ (8 ≤ y ∧ y ≤ 15) := by omega
    go_enter Try.func70, Try.ntmps70
    go_wp2_with fail
    refine (l01In_yes 3 3 8 _ (by omega)).mono ?_
    rintro e w' ⟨rfl, rfl⟩
    go_wp2_with fail
    refine (l01In_no y 8 15 _ hn).mono ?_
    rintro e w' ⟨rfl, rfl⟩
    go_wp2_with fail
    go_ret
    exact ⟨rfl, Below.alloc (Below.refl _ _) (Nat.le_refl _) _⟩
  · have hn : ¬ (16 ≤ y ∧ y ≤ 31) := by omega
    go_enter Try.func70, Try.ntmps70
    go_wp2_with fail
    refine (l01In_yes 4 3 8 _ (by omega)).mono ?_
    rintro e w' ⟨rfl, rfl⟩
    go_wp2_with fail
    refine (l01In_no y 16 31 _ hn).mono ?_
    rintro e w' ⟨rfl, rfl⟩
    go_wp2_with fail
    go_ret
    exact ⟨rfl, Below.alloc (Below.refl _ _) (Nat.le_refl _) _⟩
  · have hn : ¬ (32 ≤ y ∧ y ≤ 63) := by omega
    go_enter Try.func70, Try.ntmps70
    go_wp2_with fail
    refine (l01In_yes 5 3 8 _ (by omega)).mono ?_
    rintro e w' ⟨rfl, rfl⟩
    go_wp2_with fail
    refine (l01In_no y 32 63 _ hn).mono ?_
    rintro e w' ⟨rfl, rfl⟩
    go_wp2_with fail
    go_ret
    exact ⟨rfl, Below.alloc (Below.refl _ _) (Nat.le_refl _) _⟩
  · have hn : ¬ (64 ≤ y ∧ y ≤ 127) := by omega
    go_enter Try.func70, Try.ntmps70
    go_wp2_with fail
    refine (l01In_yes 6 3 8 _ (by omega)).mono ?_
    rintro e w' ⟨rfl, rfl⟩
    go_wp2_with fail
    refine (l01In_no y 64 127 _ hn).mono ?_
    rintro e w' ⟨rfl, rfl⟩
    go_wp2_with fail
    go_ret
    exact ⟨rfl, Below.alloc (Below.refl _ _) (Nat.le_refl _) _⟩
  · have hn : ¬ (128 ≤ y ∧ y ≤ 255) := by omega
    go_enter Try.func70, Try.ntmps70
    go_wp2_with fail
    refine (l01In_yes 7 3 8 _ (by omega)).mono ?_
    rintro e w' ⟨rfl, rfl⟩
    go_wp2_with fail
    refine (l01In_no y 128 255 _ hn).mono ?_
    rintro e w' ⟨rfl, rfl⟩
    go_wp2_with fail
    go_ret
    exact ⟨rfl, Below.alloc (Below.refl _ _) (Nat.le_refl _) _⟩
  · have hn : ¬ (256 ≤ y ∧ y ≤ 511) := by omega
    go_enter Try.func70, Try.ntmps70
    go_wp2_with fail
    refine (l01In_yes 8 3 8 _ (by omega)).mono ?_
    rintro e w' ⟨rfl, rfl⟩
    go_wp2_with fail
    refine (l01In_no y 256 511 _ hn).mono ?_
    rintro e w' ⟨rfl, rfl⟩
    go_wp2_with fail
    go_ret
    exact ⟨rfl, Below.alloc (Below.refl _ _) (Nat.le_refl _) _⟩
theorem isField_spec (p q y : Int) (w : World) : Calls Try.prog 70 #[.agg #[.int .i64 p, .int .i64 q, .int .i64 y]] w (RetB (.bool (fieldB p q y)) w) := by
  by_cases hq : q = 1
  · subst hq
    by_cases hp : 3 ≤ p ∧ p ≤ 1021
    · cases hb : primeB p with
      | true => exact isField_prime p y w hp hb
      | false => exact isField_nop p y w hp hb
    · exact isField_nor p y w hp
  · by_cases h : p = 2 ∧ 3 ≤ q ∧ q ≤ 8
    · obtain ⟨rfl, h1, h2⟩ := h
      obtain ⟨P, rfl⟩ := Int.eq_ofNat_of_zero_le (show 0 ≤ q by omega)
      by_cases hy : (2 : Int) ^ P ≤ y ∧ y < 2 * 2 ^ P
      · exact isField_bin P y w (by omega) hy
      · exact isField_bout P y w (by omega) hy
    · exact isField_no p q y w hq h
def sizeR (p q y : Int) : Int := if fieldB p q y then fsize p q else 0
theorem sizeR_yes {p q y : Int} (h : fieldB p q y = true) : sizeR p q y = fsize p q := by unfold sizeR; rw [if_pos h]
theorem sizeR_no {p q y : Int} (h : fieldB p q y = false) : sizeR p q y = 0 := by unfold sizeR; rw [if_neg (by rw [h]; simp)]
/-- What a valid field is. -/
theorem field_cases {p q y : Int} (h : fieldB p q y = true) : (q = 1 ∧ 3 ≤ p ∧ p ≤ 1021 ∧ 2 ≤ y ∧ y < p ∧ runP p y = true) ∨ (∃ P : Nat, p = 2 ∧ q = (P : Int) ∧ (P = 3 ∨ P = 4 ∨ P = 5 ∨ P = 6 ∨ P = 7 ∨ P = 8) ∧ ((2 : Int) ^ P ≤ y ∧ y < 2 * 2 ^ P) ∧ runB P y = true) := by
  unfold fieldB at h
  by_cases hq : q = 1
  · rw [if_pos hq] at h
    simp only [Bool.and_eq_true, decide_eq_true_eq, leastB] at h
    obtain ⟨⟨h1, h2⟩, h3, ⟨h4, h5⟩, h6, h7⟩ := h
    exact .inl ⟨hq, h1, h2, h4, h5, h6⟩
  · rw [if_neg hq] at h
    simp only [Bool.and_eq_true, decide_eq_true_eq, binB] at h
    obtain ⟨⟨h1, h2, h3⟩, h4, h5⟩ := h
    exact .inr ⟨q.toNat, h1, by omega, by omega, h4, h5⟩
theorem fsize_bd {p q y : Int} (h : fieldB p q y = true) : 3 ≤ fsize p q ∧ fsize p q ≤ 1021 := by
  rcases field_cases h with ⟨rfl, h1, h2, -⟩ | ⟨P, rfl, rfl, hP, -⟩
  · unfold fsize; rw [if_pos rfl]; omega
  · unfold fsize
    rw [if_neg (by omega)]
    simp only [Int.toNat_natCast]
    rcases hP with rfl | rfl | rfl | rfl | rfl | rfl <;> decide
theorem l02Size_any {p q y : Int} (w : World) (h : fieldB p q y = true) : Calls Try.prog 52 #[.agg #[.int .i64 p, .int .i64 q, .int .i64 y]] w (RetB (.int .i64 (fsize p q)) w) := by
  rcases field_cases h with ⟨rfl, h1, h2, -⟩ | ⟨P, rfl, rfl, hP, -⟩
  · exact l02Size_p p y w
  · have e : fsize 2 (P : Int) = ((2 ^ P - 1 : Nat) : Int) + 1 := by
      unfold fsize
      rw [if_neg (by omega)]
      simp only [Int.toNat_natCast]
      rcases hP with rfl | rfl | rfl | rfl | rfl | rfl <;> decide
    rw [e]
    exact l02Size_2 P y w hP
end Go.Proofs.Ytnajjofaijpciaa
