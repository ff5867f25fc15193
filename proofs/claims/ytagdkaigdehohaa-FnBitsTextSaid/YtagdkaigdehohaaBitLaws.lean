/-
  Plain laws of bit lists: numbers read back, exclusive or, texts.
  Conditions: named at each law.
-/
import Derived.Test.YtagdkaigdehohaaL01c
import Derived.Test.YtagdkaigdehohaaL01e
import Derived.Test.YtagdkaigdehohaaL01h
set_option linter.unusedVariables false
namespace Go.Proofs.Ytagdkaigdehohaa
open Go.RowKit Go.G8
theorem low_mod (v : Int) (d : Nat) : v % 2 ^ (d + 1) = (v / 2 ^ d % 2) * 2 ^ d + v % 2 ^ d := by
  have hp : (0 : Int) < 2 ^ d := Int.pow_pos (by decide)
  rw [Int.pow_succ]
  generalize (2 : Int) ^ d = p at *
  have h1 := Int.mul_ediv_add_emod v p
  have h2 := Int.emod_nonneg v (show p ≠ 0 by omega)
  have h3 := Int.emod_lt_of_pos v hp
  have h4 := Int.mul_ediv_add_emod (v / p) 2
  have h5 : v / p % 2 = 0 ∨ v / p % 2 = 1 := by omega
  have e : v = (v / p % 2 * p + v % p) + p * 2 * (v / p / 2) := by
    generalize v / p = q at *
    generalize v % p = r at *
    generalize q / 2 = t at *
    generalize q % 2 = u at *
    rw [← h1, ← h4, Int.mul_add, Int.mul_comm u p, Int.mul_assoc p 2 t]
    omega
  have key : (v / p % 2 * p + v % p) % (p * 2) = v / p % 2 * p + v % p := by
    refine Int.emod_eq_of_lt ?_ ?_ <;> rcases h5 with h | h <;> rw [h] <;> omega
  calc v % (p * 2) = ((v / p % 2 * p + v % p) + p * 2 * (v / p / 2)) % (p * 2) := by rw [← e]
    _ = (v / p % 2 * p + v % p) % (p * 2) := Int.add_mul_emod_self_left _ _ _
    _ = _ := key
theorem low_fold (v : Int) (d : Nat) (acc : Int) : (lowBits v d).foldl (fun n b => 2 * n + b) acc = acc * 2 ^ d + v % 2 ^ d := by
  induction d generalizing acc with
  | zero => simp [lowBits]
  | succ d ih =>
    rw [lowBits, List.foldl_cons, ih, low_mod, Int.add_mul, Int.pow_succ, Int.mul_comm 2 acc, Int.mul_assoc acc 2, Int.mul_comm 2 (2 ^ d)]
    omega
theorem num_low (v : Int) (d : Nat) (h0 : 0 ≤ v) (h1 : v < 2 ^ d) : num (lowBits v d) = v := by
  unfold num
  rw [low_fold, Int.zero_mul, Int.emod_eq_of_lt h0 h1]
  omega
theorem bits_fits {x : Int} (h : x = 0 ∨ x = 1) : fits .i64 x := by
  show -9223372036854775808 ≤ x ∧ x ≤ 9223372036854775807
  omega
theorem append_law {xs : List Int} {v wd : Int} (h : (rAppendBits xs v wd).2 = 0) :
    rNumberAt (rAppendBits xs v wd).1 xs.length wd = (v, 0) ∧ (rAppendBits xs v wd).1.take xs.length = xs ∧ xs.length ≤ (rAppendBits xs v wd).1.length := by
  unfold rAppendBits at *
  split at h
  · simp at h
  · rename_i hb
    split at h
    · simp at h
    · rename_i hw
      split at h
      · simp at h
      · rename_i hl
        have hb' : isBits xs = true := by simpa using hb
        have h1 := (isBits_iff xs).1 hb'
        obtain ⟨⟨w1, w2⟩, v1, v2⟩ : (0 ≤ wd ∧ wd ≤ 32) ∧ (0 ≤ v ∧ v < 2 ^ wd.toNat) := by
          constructor <;> (apply Classical.byContradiction; intro hh; exact hw (by simp only [hh, not_false_eq_true, true_or, or_true]))
        obtain ⟨d, rfl⟩ := Int.eq_ofNat_of_zero_le w1
        rw [if_neg hb, if_neg hw, if_neg hl]
        simp only [Int.toNat_natCast] at *
        have hbits : isBits (xs ++ lowBits v d) = true := by
          rw [isBits_iff]
          refine ⟨by simp [lowBits_length]; omega, fun x hx => ?_⟩
          rcases List.mem_append.1 hx with hx | hx
          · exact h1.2 x hx
          · exact lowBits_bit _ _ x hx
        refine ⟨?_, by simp, by simp⟩
        unfold rNumberAt
        rw [if_neg (by simp [hbits]), if_neg (by simp [lowBits_length]; omega)]
        simp only [Int.toNat_natCast]
        unfold bpart
        rw [List.drop_left, List.take_of_length_le (by rw [lowBits_length]; exact Nat.le_refl _), num_low v d v1 v2]
theorem xor_back {xs ys : List Int} (h1 : ∀ x ∈ xs, x = 0 ∨ x = 1) (h2 : ∀ x ∈ ys, x = 0 ∨ x = 1) (hl : xs.length = ys.length) : xorL (xorL xs ys) ys = xs := by
  induction xs generalizing ys with
  | nil => simp [xorL]
  | cons x xs ih =>
    cases ys with
    | nil => simp at hl
    | cons y ys =>
      have a := h1 x (by simp)
      have b := h2 y (by simp)
      simp only [xorL]
      rw [ih (fun z hz => h1 z (by simp [hz])) (fun z hz => h2 z (by simp [hz])) (by simpa using hl)]
      congr 1
      rcases a with rfl | rfl <;> rcases b with rfl | rfl <;> decide
theorem xor_sum (xs ys : List Int) : (xorL xs ys).sum = dist xs ys := by
  induction xs generalizing ys with
  | nil => simp [xorL, dist]
  | cons x xs ih =>
    cases ys with
    | nil => simp [xorL, dist]
    | cons y ys => simp only [xorL, dist, List.sum_cons, ih]
theorem xor_law {xs ys : List Int} (h : pairCode xs ys = 0) : pairCode (xorL xs ys) ys = 0 ∧ xorL (xorL xs ys) ys = xs ∧ (xorL xs ys).sum = dist xs ys ∧ (xorL xs ys).length = xs.length ∧ xs.length ≤ 8192 := by
  obtain ⟨a, b, c⟩ := pairCode_0 h
  have a' := (isBits_iff xs).1 a
  have b' := (isBits_iff ys).1 b
  refine ⟨?_, xor_back a'.2 b'.2 c, xor_sum xs ys, xorL_length c, a'.1⟩
  have e : isBits (xorL xs ys) = true := (isBits_iff _).2 ⟨by rw [xorL_length c]; exact a'.1, xorL_bit xs ys⟩
  unfold pairCode
  rw [if_neg (by simp [e, b]), if_neg (by rw [xorL_length c, c]; simp)]
end Go.Proofs.Ytagdkaigdehohaa
