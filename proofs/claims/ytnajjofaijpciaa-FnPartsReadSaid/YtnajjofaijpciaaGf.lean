/-
  Plain facts on the product of two numbers read as polynomials over two elements, modulo a polynomial; no program is named here.
  Conditions: the polynomial's highest bit is bit P.
-/
import Derived.Test.YtnajjofaijpciaaMg1
set_option linter.unusedVariables false
namespace Go.G8
namespace Gf

theorem dbl_xor (a b : Nat) : 2 * (a ^^^ b) = (2 * a) ^^^ (2 * b) := by
  have := Nat.shiftLeft_xor_distrib (a := a) (b := b) (i := 1)
  simpa [Nat.shiftLeft_eq, Nat.mul_comm] using this
theorem half_xor (a b : Nat) : (a ^^^ b) / 2 = (a / 2) ^^^ (b / 2) := by
  have := Nat.shiftRight_xor_distrib (a := a) (b := b) (i := 1)
  simpa [Nat.shiftRight_eq_div_pow] using this
theorem mod_xor (a b : Nat) : (a ^^^ b) % 2 = (a % 2) ^^^ (b % 2) := by
  have := Nat.xor_mod_two_pow (a := a) (b := b) (n := 1)
  simpa using this
theorem xor4 (a b c d : Nat) : (a ^^^ b) ^^^ (c ^^^ d) = (a ^^^ c) ^^^ (b ^^^ d) := by
  rw [Nat.xor_assoc, Nat.xor_assoc, ← Nat.xor_assoc b c d, Nat.xor_comm b c, Nat.xor_assoc c b d]
theorem join_half (x : Nat) : (2 * (x / 2)) ^^^ (x % 2) = x := by
  apply Nat.eq_of_testBit_eq
  intro i
  rcases i with _ | i
  · rw [Nat.testBit_xor, Nat.testBit_zero, Nat.testBit_zero, Nat.testBit_zero]
    have h : x % 2 = 0 ∨ x % 2 = 1 := by omega
    rcases h with h | h <;> simp [h]
  · rw [Nat.testBit_xor, Nat.testBit_succ, Nat.testBit_succ, Nat.testBit_succ]
    have h : x % 2 / 2 = 0 := by omega
    have h2 : 2 * (x / 2) / 2 = x / 2 := by omega
    rw [h, h2]
    simp

section
variable (P poly : Nat)
/-- Times the polynomial x. -/
def xt (a : Nat) : Nat := if 2 * a < 2 ^ P then 2 * a else (2 * a) ^^^ poly
def Good : Prop := 2 ^ P ≤ poly ∧ poly < 2 ^ (P + 1)
variable {P poly}
theorem top_bit {z : Nat} (h1 : 2 ^ P ≤ z) (h2 : z < 2 ^ (P + 1)) : z.testBit P = true := by
  rw [Nat.testBit_eq_decide_div_mod_eq]
  have hp : 0 < 2 ^ P := Nat.pow_pos (by decide)
  have e : z / 2 ^ P = 1 := by
    apply Nat.div_eq_of_lt_le
    · simpa using h1
    · rw [Nat.pow_succ] at h2; omega
  simp [e]
theorem xt_lt (h : Good P poly) {a : Nat} (ha : a < 2 ^ P) : xt P poly a < 2 ^ P := by
  unfold xt
  split
  · assumption
  · rename_i h1
    have h2 : 2 * a < 2 ^ (P + 1) := by rw [Nat.pow_succ]; omega
    refine Nat.lt_pow_two_of_testBit _ (fun i hi => ?_)
    rw [Nat.testBit_xor]
    rcases Nat.lt_or_ge P i with hlt | hge
    · rw [Nat.testBit_lt_two_pow (Nat.lt_of_lt_of_le h2 (Nat.pow_le_pow_right (by decide) hlt)), Nat.testBit_lt_two_pow (Nat.lt_of_lt_of_le h.2 (Nat.pow_le_pow_right (by decide) hlt))]
      rfl
    · obtain rfl : i = P := by omega
      rw [top_bit (by omega) h2, top_bit h.1 h.2]
      rfl
/-- The same by the bit that goes over. -/
theorem xt_bit (h : Good P poly) {a : Nat} (ha : a < 2 ^ P) : xt P poly a = (2 * a) ^^^ (if (2 * a).testBit P then poly else 0) := by
  unfold xt
  split
  · rename_i h1
    rw [Nat.testBit_lt_two_pow h1]
    simp
  · rename_i h1
    have h2 : 2 * a < 2 ^ (P + 1) := by rw [Nat.pow_succ]; omega
    rw [top_bit (by omega) h2]
    simp
theorem xt_xor (h : Good P poly) {a b : Nat} (ha : a < 2 ^ P) (hb : b < 2 ^ P) : xt P poly (a ^^^ b) = xt P poly a ^^^ xt P poly b := by
  rw [xt_bit h ha, xt_bit h hb, xt_bit h (Nat.xor_lt_two_pow ha hb), dbl_xor, Nat.testBit_xor, xor4]
  congr 1
  cases (2 * a).testBit P <;> cases (2 * b).testBit P <;> simp
theorem xt_zero : xt P poly 0 = 0 := by
  unfold xt
  rw [if_pos (by simpa using Nat.pow_pos (n := P) (show 0 < 2 by decide))]

variable (P poly)
/-- The remainder, bit by bit from the highest. -/
def remF : Nat → Nat → Nat
  | 0, _ => 0
  | n + 1, x => xt P poly (remF n (x / 2)) ^^^ (x % 2)
/-- Times x, n times. -/
def xts : Nat → Nat → Nat
  | 0, a => a
  | n + 1, a => xt P poly (xts n a)
variable {P poly}
theorem xts_lt (h : Good P poly) {a : Nat} (ha : a < 2 ^ P) (n : Nat) : xts P poly n a < 2 ^ P := by
  induction n with
  | zero => exact ha
  | succ n ih => exact xt_lt h ih
theorem xts_add (m n a : Nat) : xts P poly (m + n) a = xts P poly m (xts P poly n a) := by
  induction m with
  | zero => simp [xts]
  | succ m ih => rw [Nat.succ_add]; simp only [xts, ih]
theorem xts_zero (n : Nat) : xts P poly n 0 = 0 := by
  induction n with
  | zero => rfl
  | succ n ih => rw [xts, ih, xt_zero]
theorem remF_lt (h : Good P poly) (hP : 1 ≤ P) (n x : Nat) : remF P poly n x < 2 ^ P := by
  cases n with
  | zero => exact Nat.pow_pos (by decide)
  | succ n =>
    have h2 : 2 ≤ 2 ^ P := by
      calc 2 = 2 ^ 1 := rfl
        _ ≤ 2 ^ P := Nat.pow_le_pow_right (by decide) hP
    refine Nat.xor_lt_two_pow (xt_lt h ?_) (by omega)
    induction n generalizing x with
    | zero => exact Nat.pow_pos (by decide)
    | succ n ih => exact Nat.xor_lt_two_pow (xt_lt h (ih _)) (by omega)
theorem remF_xor (h : Good P poly) (hP : 1 ≤ P) (n x y : Nat) : remF P poly n (x ^^^ y) = remF P poly n x ^^^ remF P poly n y := by
  induction n generalizing x y with
  | zero => simp [remF]
  | succ n ih =>
    simp only [remF]
    rw [half_xor, ih, xt_xor h (remF_lt h hP _ _) (remF_lt h hP _ _), mod_xor, xor4]
theorem remF_small (n x : Nat) (hn : n ≤ P) (hx : x < 2 ^ n) : remF P poly n x = x := by
  induction n generalizing x with
  | zero => simp at hx; simp [remF, hx]
  | succ n ih =>
    have h1 : x / 2 < 2 ^ n := by rw [Nat.pow_succ] at hx; omega
    have h2 : 2 * (x / 2) < 2 ^ P := by
      have : 2 ^ (n + 1) ≤ 2 ^ P := Nat.pow_le_pow_right (by decide) hn
      rw [Nat.pow_succ] at this hx
      omega
    rw [remF, ih _ (by omega) h1, xt, if_pos h2]
    exact join_half x
theorem remF_zero (n : Nat) : remF P poly n 0 = 0 := by
  induction n with
  | zero => rfl
  | succ n ih => simp only [remF, Nat.zero_div, ih, xt_zero]; rfl
theorem remF_more (n x : Nat) (hx : x < 2 ^ n) : remF P poly (n + 1) x = remF P poly n x := by
  induction n generalizing x with
  | zero =>
    obtain rfl : x = 0 := by simpa using hx
    rw [remF_zero, remF_zero]
  | succ n ih =>
    rw [remF, ih _ (by rw [Nat.pow_succ] at hx; omega)]
    rfl
theorem remF_add (n k x : Nat) (hx : x < 2 ^ n) : remF P poly (n + k) x = remF P poly n x := by
  induction k with
  | zero => rfl
  | succ k ih => rw [← Nat.add_assoc, remF_more _ _ (Nat.lt_of_lt_of_le hx (Nat.pow_le_pow_right (by decide) (by omega))), ih]
theorem remF_low {M x : Nat} (hM : P ≤ M) (hx : x < 2 ^ P) : remF P poly M x = x := by
  obtain ⟨k, rfl⟩ : ∃ k, M = P + k := ⟨M - P, by omega⟩
  rw [remF_add P k x hx, remF_small P x (Nat.le_refl _) hx]
theorem remF_dbl (n x : Nat) : remF P poly (n + 1) (2 * x) = xt P poly (remF P poly n x) := by
  rw [remF, show 2 * x / 2 = x from by omega, show 2 * x % 2 = 0 from by omega, Nat.xor_zero]
theorem remF_shift (n k x : Nat) : remF P poly (n + k) (2 ^ k * x) = xts P poly k (remF P poly n x) := by
  induction k with
  | zero => simp [xts]
  | succ k ih =>
    rw [show n + (k + 1) = (n + k) + 1 from rfl, show 2 ^ (k + 1) * x = 2 * (2 ^ k * x) from by rw [Nat.pow_succ]; rw [Nat.mul_comm (2 ^ k) 2, Nat.mul_assoc], remF_dbl, ih]
    rfl
theorem remF_poly (h : Good P poly) (hP : 1 ≤ P) : remF P poly (P + 1) poly = 0 := by
  have h1 : poly / 2 < 2 ^ P := by have := h.2; rw [Nat.pow_succ] at this; omega
  rw [remF, remF_small P _ (Nat.le_refl _) h1, xt]
  obtain ⟨Q, rfl⟩ : ∃ Q, P = Q + 1 := ⟨P - 1, by omega⟩
  have h2 := h.1
  have hQ : ¬ 2 * (poly / 2) < 2 ^ (Q + 1) := by rw [Nat.pow_succ] at h2 ⊢; omega
  rw [if_neg hQ, Nat.xor_comm (2 * (poly / 2)) poly, Nat.xor_assoc, join_half, Nat.xor_self]
theorem remF_polys (h : Good P poly) (hP : 1 ≤ P) {M j : Nat} (hj : P + 1 + j ≤ M) : remF P poly M (2 ^ j * poly) = 0 := by
  have hlt : 2 ^ j * poly < 2 ^ (P + 1 + j) := by
    rw [Nat.pow_add 2 (P + 1) j, Nat.mul_comm]
    exact Nat.mul_lt_mul_of_pos_right h.2 (Nat.pow_pos (by decide))
  obtain ⟨k, rfl⟩ : ∃ k, M = (P + 1 + j) + k := ⟨M - (P + 1 + j), by omega⟩
  rw [remF_add _ k _ hlt, remF_shift, remF_poly h hP, xts_zero]

variable (P poly)
/-- The bits from j - 1 down above P are struck by the polynomial. -/
def redF : Nat → Nat → Nat
  | 0, x => x
  | j + 1, x => redF j (if x.testBit (P + j) then x ^^^ (2 ^ j * poly) else x)
/-- The product without carries of a and the lowest k bits of b. -/
def clm (a b : Nat) : Nat → Nat
  | 0 => 0
  | k + 1 => if b.testBit k then clm a b k ^^^ (2 ^ k * a) else clm a b k
def mulN (a b : Nat) : Nat := redF P poly (P + 1) (clm a b P)
/-- The same, each summand struck by itself. -/
def mt (a b : Nat) : Nat → Nat
  | 0 => 0
  | k + 1 => if b.testBit k then mt a b k ^^^ xts P poly k a else mt a b k
variable {P poly}
theorem redF_spec (h : Good P poly) (hP : 1 ≤ P) {M : Nat} : ∀ (j x : Nat), x < 2 ^ (P + j) → P + j ≤ M → redF P poly j x < 2 ^ P ∧ redF P poly j x = remF P poly M x := by
  intro j
  induction j with
  | zero => intro x hx hM; exact ⟨hx, (remF_low hM hx).symm⟩
  | succ j ih =>
    intro x hx hM
    simp only [redF]
    have hx' : x < 2 ^ (P + j + 1) := hx
    by_cases hb : x.testBit (P + j) = true
    · rw [if_pos hb]
      have hpj : 2 ^ (P + j) ≤ 2 ^ j * poly ∧ 2 ^ j * poly < 2 ^ (P + j + 1) := by
        constructor
        · rw [Nat.pow_add, Nat.mul_comm]; exact Nat.mul_le_mul_left _ h.1
        · rw [show P + j + 1 = j + (P + 1) from by omega, Nat.pow_add]
          exact Nat.mul_lt_mul_of_pos_left h.2 (Nat.pow_pos (by decide))
      have hlt : x ^^^ (2 ^ j * poly) < 2 ^ (P + j) := by
        refine Nat.lt_pow_two_of_testBit _ (fun i hi => ?_)
        rw [Nat.testBit_xor]
        rcases Nat.lt_or_ge (P + j) i with hl | hg
        · rw [Nat.testBit_lt_two_pow (Nat.lt_of_lt_of_le hx' (Nat.pow_le_pow_right (by decide) hl)), Nat.testBit_lt_two_pow (Nat.lt_of_lt_of_le hpj.2 (Nat.pow_le_pow_right (by decide) hl))]
          rfl
        · obtain rfl : i = P + j := by omega
          rw [hb, top_bit hpj.1 hpj.2]
          rfl
      obtain ⟨h1, h2⟩ := ih _ hlt (by omega)
      refine ⟨h1, ?_⟩
      rw [h2, remF_xor h hP, remF_polys h hP (by omega), Nat.xor_zero]
    · rw [if_neg hb]
      refine ih x ?_ (by omega)
      refine Nat.lt_pow_two_of_testBit _ (fun i hi => ?_)
      rcases Nat.lt_or_ge (P + j) i with hl | hg
      · exact Nat.testBit_lt_two_pow (Nat.lt_of_lt_of_le hx' (Nat.pow_le_pow_right (by decide) hl))
      · obtain rfl : i = P + j := by omega
        simpa using hb
theorem clm_lt {a b : Nat} (ha : a < 2 ^ P) (k : Nat) : clm a b k < 2 ^ (P + k) := by
  induction k with
  | zero => simp only [clm]; exact Nat.pow_pos (by decide)
  | succ k ih =>
    have h1 : clm a b k < 2 ^ (P + (k + 1)) := Nat.lt_of_lt_of_le ih (Nat.pow_le_pow_right (by decide) (by omega))
    simp only [clm]
    split
    · refine Nat.xor_lt_two_pow h1 ?_
      calc 2 ^ k * a < 2 ^ k * 2 ^ P := Nat.mul_lt_mul_of_pos_left ha (Nat.pow_pos (by decide))
        _ = 2 ^ (P + k) := by rw [Nat.pow_add, Nat.mul_comm]
        _ ≤ 2 ^ (P + (k + 1)) := Nat.pow_le_pow_right (by decide) (by omega)
    · exact h1
theorem rem_clm (h : Good P poly) (hP : 1 ≤ P) {M a b : Nat} (ha : a < 2 ^ P) (k : Nat) (hM : P + k ≤ M + 1) (hM2 : P ≤ M) : remF P poly M (clm a b k) = mt P poly a b k := by
  induction k with
  | zero => simp only [clm, mt, remF_zero]
  | succ k ih =>
    have hs : remF P poly M (2 ^ k * a) = xts P poly k a := by
      have hlt : 2 ^ k * a < 2 ^ (P + k) := by
        rw [Nat.pow_add, Nat.mul_comm]; exact Nat.mul_lt_mul_of_pos_right ha (Nat.pow_pos (by decide))
      obtain ⟨d, rfl⟩ : ∃ d, M = (P + k) + d := ⟨M - (P + k), by omega⟩
      rw [remF_add _ d _ hlt, remF_shift, remF_small P a (Nat.le_refl _) ha]
    simp only [clm, mt]
    split
    · rw [remF_xor h hP, ih (by omega), hs]
    · exact ih (by omega)
theorem mulN_mt (h : Good P poly) (hP : 1 ≤ P) {a b : Nat} (ha : a < 2 ^ P) : mulN P poly a b = mt P poly a b P := by
  unfold mulN
  have hx : clm a b P < 2 ^ (P + (P + 1)) := Nat.lt_of_lt_of_le (clm_lt ha P) (Nat.pow_le_pow_right (by decide) (by omega))
  rw [(redF_spec h hP (M := P + (P + 1)) (P + 1) _ hx (Nat.le_refl _)).2, rem_clm h hP ha P (by omega) (by omega)]
theorem mt_lt (h : Good P poly) {a b : Nat} (ha : a < 2 ^ P) (k : Nat) : mt P poly a b k < 2 ^ P := by
  induction k with
  | zero => simp only [mt]; exact Nat.pow_pos (by decide)
  | succ k ih =>
    simp only [mt]
    split
    · exact Nat.xor_lt_two_pow ih (xts_lt h ha k)
    · exact ih
theorem mt_xt (h : Good P poly) {a b : Nat} (ha : a < 2 ^ P) (k : Nat) : mt P poly (xt P poly a) b k = xt P poly (mt P poly a b k) := by
  induction k with
  | zero => simp only [mt, xt_zero]
  | succ k ih =>
    have hs : xts P poly k (xt P poly a) = xt P poly (xts P poly k a) := by
      have := xts_add (P := P) (poly := poly) k 1 a
      rw [Nat.add_comm, xts_add] at this
      exact this.symm
    simp only [mt]
    split
    · rw [ih, hs, xt_xor h (mt_lt h ha k) (xts_lt h ha k)]
    · exact ih
theorem mt_xts (h : Good P poly) {a b : Nat} (ha : a < 2 ^ P) (n k : Nat) : mt P poly (xts P poly n a) b k = xts P poly n (mt P poly a b k) := by
  induction n with
  | zero => rfl
  | succ n ih => rw [xts, mt_xt h (xts_lt h ha n), ih]; rfl
theorem xts_one {k : Nat} (hk : k < P) : xts P poly k 1 = 2 ^ k := by
  induction k with
  | zero => rfl
  | succ k ih =>
    rw [xts, ih (by omega), xt, if_pos]
    · rw [Nat.pow_succ, Nat.mul_comm]
    · calc 2 * 2 ^ k = 2 ^ (k + 1) := by rw [Nat.pow_succ, Nat.mul_comm]
        _ < 2 ^ P := Nat.pow_lt_pow_right (by decide) hk
theorem mt_one {b : Nat} {k : Nat} (hk : k ≤ P) : mt P poly 1 b k = b % 2 ^ k := by
  induction k with
  | zero => simp [mt, Nat.mod_one]
  | succ k ih =>
    simp only [mt]
    rw [ih (by omega), xts_one (by omega)]
    apply Nat.eq_of_testBit_eq
    intro i
    by_cases hb : b.testBit k = true
    · rw [if_pos hb, Nat.testBit_xor, Nat.testBit_mod_two_pow, Nat.testBit_mod_two_pow, Nat.testBit_two_pow]
      by_cases h1 : i < k
      · simp [h1, show ¬ k = i from by omega, show i < k + 1 from by omega]
      · by_cases h2 : i = k
        · subst h2; simp [hb]
        · simp [h1, show ¬ k = i from by omega, show ¬ i < k + 1 from by omega]
    · rw [if_neg hb, Nat.testBit_mod_two_pow, Nat.testBit_mod_two_pow]
      by_cases h1 : i < k
      · simp [h1, show i < k + 1 from by omega]
      · by_cases h2 : i = k
        · subst h2; simp [hb]
        · simp [h1, show ¬ i < k + 1 from by omega]
/-- The product of two powers. -/
theorem mulN_xts (h : Good P poly) (hP : 1 ≤ P) (m n : Nat) : mulN P poly (xts P poly m 1) (xts P poly n 1) = xts P poly (m + n) 1 := by
  have h1 : 1 < 2 ^ P := by
    calc 1 < 2 ^ 1 := by decide
      _ ≤ 2 ^ P := Nat.pow_le_pow_right (by decide) hP
  rw [mulN_mt h hP (xts_lt h h1 m), mt_xts h h1, mt_one (Nat.le_refl _), Nat.mod_eq_of_lt (xts_lt h h1 n), xts_add]
theorem mulN_zero_left (h : Good P poly) (hP : 1 ≤ P) (b : Nat) : mulN P poly 0 b = 0 := by
  rw [mulN_mt h hP (Nat.pow_pos (by decide))]
  have : ∀ k, mt P poly 0 b k = 0 := by
    intro k
    induction k with
    | zero => rfl
    | succ k ih => simp only [mt, ih, xts_zero]; simp
  exact this P
theorem mulN_zero_right (h : Good P poly) (hP : 1 ≤ P) {a : Nat} (ha : a < 2 ^ P) : mulN P poly a 0 = 0 := by
  rw [mulN_mt h hP ha]
  have : ∀ k, mt P poly a 0 k = 0 := by
    intro k
    induction k with
    | zero => rfl
    | succ k ih => simp [mt, ih]
  exact this P
end
end Gf
end Go.G8
