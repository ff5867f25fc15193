/-
  A field's elements as powers of its generator; contract of the reference product of elements.
  Conditions: valid fields, elements.
-/
import Derived.Test.YtjdnaoidlblciaaFieldNeg
import Derived.Test.YtjdnaoidlblciaaSeq
set_option linter.unusedVariables false
namespace Go.Proofs.Ytjdnaoidlblciaa
open Go.RowKit Go.G8
theorem mulN_right0 (P poly a : Nat) : Gf.mulN P poly a 0 = 0 := by
  have h1 : ∀ k, Gf.clm a 0 k = 0 := by
    intro k
    induction k with
    | zero => rfl
    | succ k ih => simp [Gf.clm, ih]
  have h2 : ∀ j, Gf.redF P poly j 0 = 0 := by
    intro j
    induction j with
    | zero => rfl
    | succ j ih => simp [Gf.redF, ih]
  unfold Gf.mulN
  rw [h1, h2]
theorem fMul_right0 (p q y a : Int) : fMul p q y a 0 = 0 := by
  unfold fMul
  split
  · simp
  · simp [mulN_right0]
structure FieldFacts (p q y : Int) (N : Nat) (t : Int → Int) : Prop where
  ok : okT t N = true
  rng : ∀ n, 0 ≤ seqT t n ∧ seqT t n < (N : Int) + 1
  mul : ∀ i j, fMul p q y (seqT t i) (seqT t j) = seqT t (i + j)
  size : (N : Int) + 1 = fsize p q
  left0 : ∀ b, fMul p q y 0 b = 0
  small : 2 ≤ N ∧ N ≤ 1020
theorem mulP_seq {p y : Int} (hp : 3 ≤ p) (hy : 2 ≤ y ∧ y < p) (i j : Nat) : seqT (tP p y) i * seqT (tP p y) j % p = seqT (tP p y) (i + j) := by
  have hr := seqT_range (t := tP p y) (size := p) (by omega) (fun x _ _ => ⟨Int.emod_nonneg _ (by omega), Int.emod_lt_of_pos _ (by omega)⟩)
  induction j with
  | zero =>
    show seqT (tP p y) i * 1 % p = seqT (tP p y) i
    rw [Int.mul_one, Int.emod_eq_of_lt (hr i).1 (hr i).2]
  | succ j ih =>
    show seqT (tP p y) i * (seqT (tP p y) j * y % p) % p = (seqT (tP p y) (i + j)) * y % p
    rw [← ih, Int.mul_emod, Int.emod_emod_of_dvd _ (Int.dvd_refl p), ← Int.mul_emod, ← Int.mul_assoc, Int.mul_emod (seqT (tP p y) i * seqT (tP p y) j % p) y p, Int.emod_emod_of_dvd _ (Int.dvd_refl p), ← Int.mul_emod]
theorem field_facts {p q y : Int} (h : fieldB p q y = true) : FieldFacts p q y (fN p q) (tF p q y) := by
  rcases field_cases h with ⟨rfl, h1, h2, h3, h4, h5⟩ | ⟨P, rfl, rfl, hP, hy, hrun⟩
  · have eN : fN p 1 = (p - 1).toNat := rfl
    have et : tF p 1 y = tP p y := rfl
    have es : fsize p 1 = p := rfl
    rw [eN, et]
    refine ⟨h5, fun n => ?_, fun i j => ?_, by rw [es]; omega, fun b => ?_, by omega⟩
    · have := seqT_range (t := tP p y) (size := p) (by omega) (fun x _ _ => ⟨Int.emod_nonneg _ (by omega), Int.emod_lt_of_pos _ (by omega)⟩) n
      omega
    · unfold fMul; rw [if_pos rfl]; exact mulP_seq h1 ⟨h3, h4⟩ i j
    · unfold fMul; rw [if_pos rfl, Int.zero_mul, Int.zero_emod]
  · have hq : ¬ (P : Int) = 1 := by omega
    have hg := good_of hy
    have h8 : 2 ^ P ≤ 256 ∧ 8 ≤ 2 ^ P := by rcases hP with rfl | rfl | rfl | rfl | rfl | rfl <;> decide
    have es : fsize 2 (P : Int) = ((2 ^ P : Nat) : Int) := by
      unfold fsize
      rw [if_neg hq, Int.toNat_natCast, Int.natCast_pow]
      rfl
    have eN : fN 2 (P : Int) = 2 ^ P - 1 := by unfold fN; rw [es]; omega
    have et : tF 2 (P : Int) y = tB P y.toNat := by unfold tF; rw [if_neg hq, Int.toNat_natCast]
    have hNP : (2 ^ P - 1) + 1 = 2 ^ P := by omega
    rw [eN, et]
    refine ⟨hrun, fun n => ?_, fun i j => ?_, by rw [es]; omega, fun b => ?_, by omega⟩
    · exact seqT_range (t := tB P y.toNat) (size := ((2 ^ P - 1 : Nat) : Int) + 1) (by omega) (tB_range hg hNP) n
    · unfold fMul
      rw [if_neg hq, tB_seq, tB_seq, tB_seq]
      simp only [Int.toNat_natCast]
      rw [Gf.mulN_xts hg (by omega)]
    · unfold fMul
      rw [if_neg hq]
      simp only [Int.toNat_natCast]
      rw [show (0 : Int).toNat = 0 from rfl, Gf.mulN_zero_left hg (by omega)]
      rfl
theorem FieldFacts.elem {p q y a : Int} {N : Nat} {t : Int → Int} (F : FieldFacts p q y N t) (ha : 0 ≤ a ∧ a ≤ fsize p q - 1) (h0 : a ≠ 0) : ∃ i, i < N ∧ a = seqT t i ∧ logT t N a.toNat = (i : Int) := by
  have hs := F.size
  obtain ⟨i, hi, rfl⟩ := seqT_onto F.ok F.rng (a := a) (by omega)
  exact ⟨i, hi, rfl, logT_seq F.ok F.rng hi (Nat.le_refl _)⟩
theorem FieldFacts.seq_in {p q y : Int} {N : Nat} {t : Int → Int} (F : FieldFacts p q y N t) (n : Nat) : 0 ≤ seqT t n ∧ seqT t n ≤ fsize p q - 1 := by
  have hs := F.size
  have := F.rng n
  omega
theorem fMul_in {p q y a b : Int} (h : fieldB p q y = true) (ha : 0 ≤ a ∧ a ≤ fsize p q - 1) (hb : 0 ≤ b ∧ b ≤ fsize p q - 1) : 0 ≤ fMul p q y a b ∧ fMul p q y a b ≤ fsize p q - 1 := by
  have F := field_facts h
  have hbd := fsize_bd h
  by_cases h0 : a = 0
  · subst h0; rw [F.left0]; omega
  by_cases h1 : b = 0
  · subst h1; rw [fMul_right0]; omega
  obtain ⟨i, -, rfl, -⟩ := F.elem ha h0
  obtain ⟨j, -, rfl, -⟩ := F.elem hb h1
  rw [F.mul]
  exact F.seq_in _
theorem l02Mul_any (p q y a b : Int) (w : World) (h : fieldB p q y = true) (ha : 0 ≤ a ∧ a ≤ fsize p q - 1) (hb : 0 ≤ b ∧ b ≤ fsize p q - 1) :
    Calls Try.prog 70 #[.agg #[.int .i64 p, .int .i64 q, .int .i64 y], .int .i64 a, .int .i64 b] w (RetB (.int .i64 (fMul p q y a b)) w) := by
  rcases field_cases h with ⟨rfl, h1, h2, h3, h4, h5⟩ | ⟨P, rfl, rfl, hP, hy, hrun⟩
  · have es : fsize p 1 = p := rfl
    rw [es] at ha hb
    have e : fMul p 1 y a b = a * b % p := rfl
    rw [e]
    exact l02Mul_prime p y a b w ⟨h1, h2⟩ (by omega) (by omega)
  · have hq : ¬ (P : Int) = 1 := by omega
    have hg := good_of hy
    have es : fsize 2 (P : Int) = ((2 ^ P : Nat) : Int) := by
      unfold fsize
      rw [if_neg hq, Int.toNat_natCast, Int.natCast_pow]
      rfl
    rw [es] at ha hb
    have h8 : 8 ≤ 2 ^ P := by rcases hP with rfl | rfl | rfl | rfl | rfl | rfl <;> decide
    obtain ⟨an, rfl⟩ := Int.eq_ofNat_of_zero_le ha.1
    obtain ⟨bn, rfl⟩ := Int.eq_ofNat_of_zero_le hb.1
    obtain ⟨yn, rfl⟩ := Int.eq_ofNat_of_zero_le (show 0 ≤ y by have := hy.1; have e : ((2 ^ P : Nat) : Int) = (2 : Int) ^ P := Int.natCast_pow 2 P; omega)
    have e : fMul 2 (P : Int) (yn : Int) (an : Int) (bn : Int) = ((Gf.mulN P yn an bn : Nat) : Int) := by
      unfold fMul; rw [if_neg hq]; simp only [Int.toNat_natCast]
    rw [e]
    exact l02Mul_bin P yn an bn w (by omega) hg (by omega) (by omega)
def genR (q y : Int) : Int := if q = 1 then y else 2
end Go.Proofs.Ytjdnaoidlblciaa
