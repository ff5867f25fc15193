/-
  Plain facts on the powers of a generator: they run through all numbers but 0, and come round; no program is named here.
  Conditions: none.
-/
import Derived.Test.YtjdnaoidlblciaaCalcB
set_option linter.unusedVariables false
namespace Go.G8
open Go.RowKit

theorem nodup_len {l m : List Nat} (hl : l.Nodup) (h : ∀ x ∈ l, x ∈ m) : l.length ≤ m.length := by
  induction l generalizing m with
  | nil => simp
  | cons x xs ih =>
    rw [List.nodup_cons] at hl
    have hx := h x (by simp)
    have h1 := ih hl.2 (m := m.erase x) (fun y hy => by
      have hne : y ≠ x := fun e => hl.1 (e ▸ hy)
      exact (List.mem_erase_of_ne hne).2 (h y (by simp [hy])))
    rw [List.length_erase_of_mem hx] at h1
    have h2 : 0 < m.length := List.length_pos_of_mem hx
    simp only [List.length_cons]
    omega
theorem pigeon {N : Nat} (f : Nat → Nat) (hf : ∀ i, i < N → 1 ≤ f i ∧ f i ≤ N) (hi : ∀ i j, i < j → j < N → f i ≠ f j) {a : Nat} (ha : 1 ≤ a ∧ a ≤ N) : ∃ i, i < N ∧ f i = a := by
  refine Classical.byContradiction fun hn => ?_
  have hnd : ((List.range N).map f).Nodup := by
    unfold List.Nodup
    rw [List.pairwise_map]
    refine List.Pairwise.imp_of_mem ?_ List.pairwise_lt_range
    intro i j _ hj hlt
    exact hi i j hlt (List.mem_range.1 hj)
  have hnd2 : (a :: (List.range N).map f).Nodup := by
    rw [List.nodup_cons]
    refine ⟨fun hm => hn ?_, hnd⟩
    obtain ⟨i, hi1, hi2⟩ := List.mem_map.1 hm
    exact ⟨i, List.mem_range.1 hi1, hi2⟩
  have h := nodup_len (m := List.range' 1 N) hnd2 (fun x hx => by
    rw [List.mem_range'_1]
    rcases List.mem_cons.1 hx with rfl | hx
    · omega
    · obtain ⟨i, hi1, rfl⟩ := List.mem_map.1 hx
      have := hf i (List.mem_range.1 hi1)
      omega)
  simp at h
  omega

def itT (t : Int → Int) : Nat → Int → Int
  | 0, x => x
  | n + 1, x => t (itT t n x)
section
variable {t : Int → Int} {N : Nat}
theorem seqT_add (t : Int → Int) (n m : Nat) : seqT t (n + m) = itT t n (seqT t m) := by
  induction n with
  | zero => simp [itT]
  | succ n ih => rw [Nat.add_right_comm]; simp only [seqT, itT, ih]
theorem okT_one (h : okT t N = true) : seqT t N = 1 := by
  simp only [okT, Bool.and_eq_true, decide_eq_true_eq] at h
  exact h.2
theorem okT_good (h : okT t N = true) {i : Nat} (hi : i < N) : seqT t i ≠ 0 ∧ (0 < i → seqT t i ≠ 1) := by
  simp only [okT, Bool.and_eq_true, decide_eq_true_eq] at h
  have h1 := goodT_le h.1 (show i + 1 ≤ N by omega)
  simp only [goodT, Bool.and_eq_true, Bool.or_eq_true, decide_eq_true_eq] at h1
  refine ⟨h1.2.1, fun h0 => ?_⟩
  rcases h1.2.2 with h2 | h2
  · omega
  · exact h2
theorem seqT_per (h : okT t N = true) (n : Nat) : seqT t (n + N) = seqT t n := by
  rw [seqT_add, okT_one h]
  have := seqT_add t n 0
  rw [Nat.add_zero] at this
  rw [this]
  rfl
theorem seqT_perk (h : okT t N = true) (n k : Nat) : seqT t (n + N * k) = seqT t n := by
  induction k with
  | zero => simp
  | succ k ih => rw [Nat.mul_succ, ← Nat.add_assoc, seqT_per h, ih]
theorem seqT_mod (h : okT t N = true) (n : Nat) : seqT t (n % N) = seqT t n := by
  have := seqT_perk h (n % N) (n / N)
  rw [Nat.mod_add_div] at this
  exact this.symm
theorem seqT_inj (h : okT t N = true) {i j : Nat} (hij : i < j) (hj : j < N) : seqT t i ≠ seqT t j := by
  intro e
  have h1 : seqT t ((N - j) + i) = seqT t ((N - j) + j) := by rw [seqT_add, seqT_add, e]
  rw [show (N - j) + j = N by omega, okT_one h] at h1
  exact (okT_good h (show (N - j) + i < N by omega)).2 (by omega) h1
theorem seqT_onto (h : okT t N = true) (hr : ∀ n, 0 ≤ seqT t n ∧ seqT t n < (N : Int) + 1) {a : Int} (ha : 1 ≤ a ∧ a ≤ (N : Int)) : ∃ i, i < N ∧ seqT t i = a := by
  obtain ⟨i, hi, e⟩ := pigeon (N := N) (fun i => (seqT t i).toNat) (fun i hi => by
      have h1 := hr i
      have h2 := (okT_good h hi).1
      omega) (fun i j hij hj e => by
      refine seqT_inj h hij hj ?_
      have h1 := hr i
      have h2 := hr j
      have e2 : (seqT t i).toNat = (seqT t j).toNat := e
      omega) (a := a.toNat) (by omega)
  refine ⟨i, hi, ?_⟩
  have h1 := hr i
  have e2 : (seqT t i).toNat = a.toNat := e
  omega
theorem logT_seq (h : okT t N = true) (hr : ∀ n, 0 ≤ seqT t n ∧ seqT t n < (N : Int) + 1) {n k : Nat} (hk : k < n) (hn : n ≤ N) : logT t n (seqT t k).toNat = (k : Int) := by
  induction n with
  | zero => omega
  | succ n ih =>
    simp only [logT]
    by_cases e : k = n
    · subst e; rw [if_pos rfl]
    · have hne := seqT_inj h (show k < n by omega) (show n < N by omega)
      have h1 := hr k
      have h2 := hr n
      rw [if_neg (by omega)]
      exact ih (by omega) (by omega)
theorem expT_at {n i : Nat} (hi : i < n) : expT t n i = seqT t i := by unfold expT; rw [if_pos hi]
end

/-! ### powers by squares -/
def powG (m : Int → Int → Int) : Nat → Int → Int → Nat → Int
  | 0, out, _, _ => out
  | k + 1, out, a, n => if n = 0 then out else powG m k (if n % 2 = 1 then m out a else out) (m a a) (n / 2)
theorem powG_end (m : Int → Int → Int) (k : Nat) (out a : Int) : powG m k out a 0 = out := by cases k <;> simp [powG]
theorem powG_odd {m : Int → Int → Int} {k n : Nat} {out a : Int} (h : n % 2 = 1) : powG m (k + 1) out a n = powG m k (m out a) (m a a) (n / 2) := by
  rw [powG, if_neg (by omega), if_pos h]
theorem powG_even {m : Int → Int → Int} {k n : Nat} {out a : Int} (h : n % 2 = 0) (h0 : n ≠ 0) : powG m (k + 1) out a n = powG m k out (m a a) (n / 2) := by
  rw [powG, if_neg h0, if_neg (by omega)]
theorem powG_seq {m : Int → Int → Int} {t : Int → Int} (hm : ∀ i j, m (seqT t i) (seqT t j) = seqT t (i + j)) : ∀ (k u v n : Nat), n < 2 ^ k → powG m k (seqT t u) (seqT t v) n = seqT t (u + v * n) := by
  intro k
  induction k with
  | zero => intro u v n hn; obtain rfl : n = 0 := by simpa using hn
            simp [powG]
  | succ k ih =>
    intro u v n hn
    by_cases h0 : n = 0
    · subst h0; simp [powG_end]
    · have hn2 : n / 2 < 2 ^ k := by rw [Nat.pow_succ] at hn; omega
      by_cases h1 : n % 2 = 1
      · rw [powG_odd h1, hm, hm, ih _ _ _ hn2]
        congr 1
        obtain ⟨c, rfl⟩ : ∃ c, n = 2 * c + 1 := ⟨n / 2, by omega⟩
        rw [show (2 * c + 1) / 2 = c by omega, Nat.mul_add, Nat.mul_one, Nat.add_mul, ← Nat.mul_assoc, Nat.mul_comm v 2, Nat.mul_assoc]
        omega
      · rw [powG_even (by omega) h0, hm, ih _ _ _ hn2]
        congr 1
        obtain ⟨c, rfl⟩ : ∃ c, n = 2 * c := ⟨n / 2, by omega⟩
        rw [show (2 * c) / 2 = c by omega, Nat.add_mul, ← Nat.mul_assoc, Nat.mul_comm v 2, Nat.mul_assoc]
        omega
theorem powG_nul {m : Int → Int → Int} (hm : ∀ x, m x 0 = 0) : ∀ (k n : Nat), powG m k 0 0 n = 0 := by
  intro k
  induction k with
  | zero => intro n; rfl
  | succ k ih => intro n; simp [powG, hm, ih]
theorem powG_zero {m : Int → Int → Int} (hm : ∀ x, m x 0 = 0) : ∀ (k n : Nat) (out : Int), n < 2 ^ k → n ≠ 0 → powG m k out 0 n = 0 := by
  intro k
  induction k with
  | zero => intro n out hn h0; simp at hn; omega
  | succ k ih =>
    intro n out hn h0
    have hn2 : n / 2 < 2 ^ k := by rw [Nat.pow_succ] at hn; omega
    by_cases h1 : n % 2 = 1
    · rw [powG_odd h1, hm, hm, powG_nul hm]
    · rw [powG_even (by omega) h0, hm, ih _ _ hn2 (by omega)]
end Go.G8
