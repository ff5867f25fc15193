/-
  Contracts: the arithmetic of the numbers modulo a prime; the tests for a prime.
  Conditions: numbers between 3 and 1021.
-/
import Derived.Test.YtnajjofaijpciaaCalcC
set_option linter.unusedVariables false
namespace Go.Proofs.Ytnajjofaijpciaa
open Go.RowKit Go.G8

def noDiv (n : Int) (k : Nat) : Bool := (List.range k).all (fun d => !(decide (2 ≤ d ∧ (d : Int) * d ≤ n ∧ n % d = 0)))
def primeB (n : Int) : Bool := noDiv n 33
theorem noDiv_succ {n : Int} {k : Nat} (h : noDiv n k = true) (hk : ¬ n % (k : Int) = 0) : noDiv n (k + 1) = true := by
  unfold noDiv at *
  rw [List.range_succ, List.all_append, h]
  simp [hk]
theorem noDiv_bad {n : Int} {k : Nat} (h2 : 2 ≤ k) (hk : n % (k : Int) = 0) (hl : (k : Int) * k ≤ n) (h : k < 33) : primeB n = false := by
  rw [Bool.eq_false_iff]
  intro e
  have := List.all_eq_true.1 e k (by simpa using h)
  simp [h2, hk, hl] at this
theorem noDiv_end {n : Int} {k : Nat} (h : noDiv n k = true) (hl : ¬ (k : Int) * k ≤ n) : primeB n = true := by
  refine List.all_eq_true.2 (fun d hd => ?_)
  by_cases hdk : d < k
  · exact List.all_eq_true.1 h d (by simpa using hdk)
  · have h1 : (k : Int) * k ≤ (d : Int) * d := Int.mul_le_mul (by omega) (by omega) (by omega) (by omega)
    have : ¬ (d : Int) * d ≤ n := by omega
    simp [this]
theorem sq_bd {k : Nat} {n : Int} (hk : (k : Int) * k ≤ n) (hn : n ≤ 1021) : k < 32 := by
  rcases Nat.lt_or_ge k 32 with h | h
  · exact h
  · exfalso
    have : (32 : Int) * 32 ≤ (k : Int) * k := Int.mul_le_mul (by omega) (by omega) (by omega) (by omega)
    omega
theorem sq_small {k : Nat} (hk : k ≤ 32) : (k : Int) * k ≤ 1024 := by
  have : (k : Int) * k ≤ 32 * 32 := Int.mul_le_mul (by omega) (by omega) (by omega) (by omega)
  omega
theorem isPrime_spec (n : Int) (w : World) (hn : 3 ≤ n ∧ n ≤ 1021) : Calls Try.prog 79 #[.int .i64 n] w (RetS (.bool (primeB n)) w) := by
  obtain ⟨hn1, hn2⟩ := hn
  go_enter Try.func79, Try.ntmps79
  go_wp2
  go_loop [3] (fun d => ∃ k : Nat, 2 ≤ k ∧ k ≤ 32 ∧ d = .int .i64 k ∧ Hid (noDiv n k = true)) (fun d => 33 - (intOf d).toNat)
  case atStart => exact ⟨2, by omega, by omega, by go_num, rfl⟩
  case round =>
    obtain ⟨k, hk1, hk2, rfl, hnd⟩ := hrel
    have hsq := sq_small hk2
    have hsq0 : 0 ≤ (k : Int) * k := Int.mul_nonneg (by omega) (by omega)
    by_cases hl : (k : Int) * k ≤ n
    · have hk3 := sq_bd hl hn2
      have hkn : ¬ (k : Int) = 0 := by omega
      by_cases hz : n % (k : Int) = 0
      · have hr := Lib.hid (noDiv_bad hk1 hz hl (by omega))
        go_wp2
        go_ret
        exact ⟨ret_bool hr.out.symm, rfl⟩
      · have hr := Lib.hid (noDiv_succ hnd.out hz)
        have hzb : (n % (k : Int) == 0) = false := by rw [beq_eq_false_iff_ne]; exact hz
        go_wp2
        go_round
        case rel => exact ⟨k + 1, by omega, by omega, by go_num, hr⟩
        case measure => simp [intOf]; omega
    · have hr := Lib.hid (noDiv_end hnd.out hl)
      have hl2 : n < (k : Int) * k := by omega
      have hlb : decide ((k : Int) * k ≤ n) = false := by simpa using hl
      clear hl
      go_wp2
      go_ret
      exact ⟨ret_bool hr.out.symm, rfl⟩
theorem l02Prime_spec (n : Int) (w : World) (hn : 3 ≤ n ∧ n ≤ 1021) : Calls Try.prog 87 #[.int .i64 n] w (RetS (.bool (primeB n)) w) := by
  obtain ⟨hn1, hn2⟩ := hn
  go_enter Try.func87, Try.ntmps87
  go_wp2
  go_loop [3] (fun d => ∃ k : Nat, 2 ≤ k ∧ k ≤ 32 ∧ d = .int .i64 k ∧ Hid (noDiv n k = true)) (fun d => 33 - (intOf d).toNat)
  case atStart => exact ⟨2, by omega, by omega, by go_num, rfl⟩
  case round =>
    obtain ⟨k, hk1, hk2, rfl, hnd⟩ := hrel
    have hsq := sq_small hk2
    have hsq0 : 0 ≤ (k : Int) * k := Int.mul_nonneg (by omega) (by omega)
    by_cases hl : (k : Int) * k ≤ n
    · have hk3 := sq_bd hl hn2
      have hkn : ¬ (k : Int) = 0 := by omega
      by_cases hz : n % (k : Int) = 0
      · have hr := Lib.hid (noDiv_bad hk1 hz hl (by omega))
        go_wp2
        go_ret
        exact ⟨ret_bool hr.out.symm, rfl⟩
      · have hr := Lib.hid (noDiv_succ hnd.out hz)
        have hzb : (n % (k : Int) == 0) = false := by rw [beq_eq_false_iff_ne]; exact hz
        go_wp2
        go_round
        case rel => exact ⟨k + 1, by omega, by omega, by go_num, hr⟩
        case measure => simp [intOf]; omega
    · have hr := Lib.hid (noDiv_end hnd.out hl)
      have hl2 : n < (k : Int) * k := by omega
      have hlb : decide ((k : Int) * k ≤ n) = false := by simpa using hl
      clear hl
      go_wp2
      go_ret
      exact ⟨ret_bool (by rw [hr.out]; simp; omega), rfl⟩
end Go.Proofs.Ytnajjofaijpciaa
