/-
  Contracts of the reference product of a field's elements.
  Conditions: the polynomial has between 3 and 8 bits over its highest; primes up to 1021.
-/
import Derived.Test.YtnajjofaijpciaaFieldC
import Derived.Test.YtnajjofaijpciaaBits
set_option linter.unusedVariables false
namespace Go.Proofs.Ytnajjofaijpciaa
open Go.RowKit Go.G8
def fMul (p q y a b : Int) : Int := if q = 1 then a * b % p else (Gf.mulN q.toNat y.toNat a.toNat b.toNat : Int)
theorem clm_snoc_yes {a b k : Nat} (h : b.testBit k = true) : Gf.clm a b (k + 1) = Gf.clm a b k ^^^ (2 ^ k * a) := by simp [Gf.clm, h]
theorem clm_snoc_no {a b k : Nat} (h : b.testBit k = false) : Gf.clm a b (k + 1) = Gf.clm a b k := by simp [Gf.clm, h]
theorem redF_yes {P poly j x : Nat} (h : x.testBit (P + j) = true) : Gf.redF P poly (j + 1) x = Gf.redF P poly j (x ^^^ (2 ^ j * poly)) := by simp [Gf.redF, h]
theorem redF_no {P poly j x : Nat} (h : x.testBit (P + j) = false) : Gf.redF P poly (j + 1) x = Gf.redF P poly j x := by simp [Gf.redF, h]
theorem bit_yes {b k : Nat} (h : b.testBit k = true) : ((b : Int) / 2 ^ k % 2 == 1) = true := by
  rw [Nat.testBit_eq_decide_div_mod_eq, decide_eq_true_eq] at h
  rw [beq_iff_eq]
  have e : ((2 ^ k : Nat) : Int) = (2 : Int) ^ k := Int.natCast_pow 2 k
  rw [← e, ← Int.natCast_ediv]
  omega
theorem bit_no {b k : Nat} (h : b.testBit k = false) : ((b : Int) / 2 ^ k % 2 == 1) = false := by
  rw [Nat.testBit_eq_decide_div_mod_eq, decide_eq_false_iff_not] at h
  rw [beq_eq_false_iff_ne]
  have e : ((2 ^ k : Nat) : Int) = (2 : Int) ^ k := Int.natCast_pow 2 k
  rw [← e, ← Int.natCast_ediv]
  omega
theorem wrap_shl {a k : Nat} (h : 2 ^ k * a < 4294967296) : wrap64 ((a : Int) * 2 ^ k) = ((2 ^ k * a : Nat) : Int) := by
  have e : ((2 ^ k * a : Nat) : Int) = (a : Int) * 2 ^ k := by rw [Int.natCast_mul, Int.natCast_pow, Int.mul_comm]; rfl
  rw [← e]
  unfold wrap64
  omega
theorem shl_lt {a k P : Nat} (h : a < 2 ^ P) (hk : P + k ≤ 17) : 2 ^ k * a < 131072 := by
  have h1 : 2 ^ k * a < 2 ^ k * 2 ^ P := Nat.mul_lt_mul_of_pos_left h (Nat.pow_pos (by decide))
  rw [← Nat.pow_add] at h1
  have h2 : 2 ^ (k + P) ≤ 2 ^ 17 := Nat.pow_le_pow_right (by decide) (by omega)
  omega
theorem red_lt_yes {P poly j x : Nat} (h : Gf.Good P poly) (hx : x < 2 ^ (P + (j + 1))) (hb : x.testBit (P + j) = true) : x ^^^ (2 ^ j * poly) < 2 ^ (P + j) := by
  have hx' : x < 2 ^ (P + j + 1) := hx
  have hpj : 2 ^ (P + j) ≤ 2 ^ j * poly ∧ 2 ^ j * poly < 2 ^ (P + j + 1) := by
    constructor
    · rw [Nat.pow_add, Nat.mul_comm]; exact Nat.mul_le_mul_left _ h.1
    · rw [show P + j + 1 = j + (P + 1) from by omega, Nat.pow_add]
      exact Nat.mul_lt_mul_of_pos_left h.2 (Nat.pow_pos (by decide))
  refine Nat.lt_pow_two_of_testBit _ (fun i hi => ?_)
  rw [Nat.testBit_xor]
  rcases Nat.lt_or_ge (P + j) i with hl | hg
  · rw [Nat.testBit_lt_two_pow (Nat.lt_of_lt_of_le hx' (Nat.pow_le_pow_right (by decide) hl)), Nat.testBit_lt_two_pow (Nat.lt_of_lt_of_le hpj.2 (Nat.pow_le_pow_right (by decide) hl))]
    rfl
  · obtain rfl : i = P + j := by omega
    rw [hb, Gf.top_bit hpj.1 hpj.2]
    rfl
theorem red_lt_no {P j x : Nat} (hx : x < 2 ^ (P + (j + 1))) (hb : x.testBit (P + j) = false) : x < 2 ^ (P + j) := by
  have hx' : x < 2 ^ (P + j + 1) := hx
  refine Nat.lt_pow_two_of_testBit _ (fun i hi => ?_)
  rcases Nat.lt_or_ge (P + j) i with hl | hg
  · exact Nat.testBit_lt_two_pow (Nat.lt_of_lt_of_le hx' (Nat.pow_le_pow_right (by decide) hl))
  · obtain rfl : i = P + j := by omega
    exact hb
theorem l02Mul_prime (p y a b : Int) (w : World) (hp : 3 ≤ p ∧ p ≤ 1021) (ha : 0 ≤ a ∧ a < p) (hb : 0 ≤ b ∧ b < p) :
    Calls Try.prog 94 #[.agg #[.int .i64 p, .int .i64 1, .int .i64 y], .int .i64 a, .int .i64 b] w (fun e w' => e = .returned (.int .i64 (a * b % p)) ∧ Below w.heap.size w w') := by
  obtain ⟨hp1, hp2⟩ := hp
  obtain ⟨ha1, ha2⟩ := ha
  obtain ⟨hb1, hb2⟩ := hb
  have hm1 : 0 ≤ a * b := Int.mul_nonneg ha1 hb1
  have hm2 : a * b ≤ 1021 * 1021 := Int.mul_le_mul (by omega) (by omega) hb1 (by omega)
  go_enter Try.func94, Try.ntmps94
  go_wp2
  go_ret
  exact ⟨rfl, Below.alloc (Below.refl _ _) (Nat.le_refl _) _⟩
set_option maxHeartbeats 1000000 in
theorem l02Mul_bin (P y a b : Nat) (w : World) (hP : 3 ≤ P ∧ P ≤ 8) (hg : Gf.Good P y) (ha : a < 2 ^ P) (hb : b < 2 ^ P) :
    Calls Try.prog 94 #[.agg #[.int .i64 2, .int .i64 P, .int .i64 y], .int .i64 a, .int .i64 b] w (fun e w' => e = .returned (.int .i64 (Gf.mulN P y a b : Nat)) ∧ Below w.heap.size w w') := by
  obtain ⟨hP1, hP2⟩ := hP
  have hpb : ((P : Int) == 1) = false := by rw [beq_eq_false_iff_ne]; omega
  have h2P : 2 ^ P ≤ 256 := by
    have : 2 ^ P ≤ 2 ^ 8 := Nat.pow_le_pow_right (by decide) hP2
    omega
  have hy : y < 512 := by
    have h2 : 2 ^ (P + 1) ≤ 2 ^ 9 := Nat.pow_le_pow_right (by decide) (by omega)
    have := hg.2
    omega
  have HA := Lib.hid ha
  have ha8 : a ≤ 255 := by omega
  have hb8 : b ≤ 255 := by omega
  clear ha hb
  go_enter Try.func94, Try.ntmps94
  go_wp2
  go_loop [7, 8] (fun o i => ∃ k : Nat, k ≤ P ∧ i = .int .i64 k ∧ o = .int .i64 (Gf.clm a b k : Nat)) (fun _ i => P - (intOf i).toNat)
  case atStart => exact ⟨0, Nat.zero_le _, rfl, rfl⟩
  case round =>
    obtain ⟨k, hk, rfl, rfl⟩ := hrel
    have hcl := Gf.clm_lt (a := a) (b := b) HA.out k
    have hcl2 : Gf.clm a b k < 65536 := by
      have : 2 ^ (P + k) ≤ 2 ^ 16 := Nat.pow_le_pow_right (by decide) (by omega)
      omega
    by_cases hlt : k < P
    · cases ht : b.testBit k with
      | true =>
        have hand := i64_and1 ((b : Int) / 2 ^ k)
        have hbit := bit_yes ht
        have hS := Lib.hid (clm_snoc_yes (a := a) ht)
        have hw := Lib.hid (wrap_shl (a := a) (k := k) (by have := shl_lt HA.out (k := k) (by omega); omega))
        have hx := Lib.hid (i64_xor_nat (Gf.clm a b k) (2 ^ k * a) (by omega) (by have := shl_lt HA.out (k := k) (by omega); omega))
        go_wp2
        go_round
        case rel => exact ⟨k + 1, by omega, by go_num, by rw [hw.out, hx.out, hS.out]⟩
        case measure => simp [intOf]; omega
      | false =>
        have hand := i64_and1 ((b : Int) / 2 ^ k)
        have hbit := bit_no ht
        have hS := Lib.hid (clm_snoc_no (a := a) ht)
        go_wp2
        go_round
        case rel => exact ⟨k + 1, by omega, by go_num, by rw [hS.out]⟩
        case measure => simp [intOf]; omega
    · obtain rfl : k = P := by omega
      clear hlt hk
      go_wp2
      go_loop [7, 9] (fun o i => ∃ m j x : Nat, m + 1 = k + j ∧ j ≤ k + 1 ∧ i = .int .i64 m ∧ o = .int .i64 x ∧ x < 2 ^ (k + j) ∧ Hid (Gf.redF k y j x = Gf.mulN k y a b)) (fun _ i => (intOf i).toNat + 1 - k)
      case atStart => exact ⟨2 * k, k + 1, _, by omega, by omega, by go_num, rfl, Nat.lt_of_lt_of_le hcl (Nat.pow_le_pow_right (by decide) (by omega)), rfl⟩
      case round =>
        obtain ⟨m, j, x, hm, hj, rfl, rfl, hx, hred⟩ := hrel
        rcases j with _ | j
        · have hmk : m < k := by omega
          go_wp2
          go_ret
          exact ⟨ret_int (by rw [← hred.out]; rfl), Below.alloc (Below.refl _ _) (Nat.le_refl _) _⟩
        · obtain rfl : m = k + j := by omega
          have hx17 : x < 131072 := by
            have : 2 ^ (k + (j + 1)) ≤ 2 ^ 17 := Nat.pow_le_pow_right (by decide) (by omega)
            omega
          have hand := i64_and1 ((x : Int) / 2 ^ (k + j))
          cases ht : x.testBit (k + j) with
          | true =>
            have hbit := bit_yes ht
            have hS := Lib.hid (redF_yes (poly := y) ht)
            have HY := Lib.hid (Nat.lt_of_lt_of_le hg.2 (Nat.pow_le_pow_right (show 0 < 2 by decide) (Nat.le_refl _)))
            have hw := Lib.hid (wrap_shl (a := y) (k := j) (by have := shl_lt hg.2 (k := j) (by omega); omega))
            have hxx := Lib.hid (i64_xor_nat x (2 ^ j * y) (by omega) (by have := shl_lt hg.2 (k := j) (by omega); omega))
            have hlt := red_lt_yes hg hx ht
            go_wp2
            go_round
            case rel => exact ⟨k + j - 1, j, _, by omega, by omega, by rw [show (k : Int) + (j : Int) - 1 = ((k + j - 1 : Nat) : Int) by omega], by rw [hw.out, hxx.out], hlt, Lib.hid (hS.out.symm.trans hred.out)⟩
            case measure => simp [intOf]; omega
          | false =>
            have hbit := bit_no ht
            have hS := Lib.hid (redF_no (poly := y) ht)
            have hlt := red_lt_no hx ht
            go_wp2
            go_round
            case rel => exact ⟨k + j - 1, j, _, by omega, by omega, by rw [show (k : Int) + (j : Int) - 1 = ((k + j - 1 : Nat) : Int) by omega], rfl, hlt, Lib.hid (hS.out.symm.trans hred.out)⟩
            case measure => simp [intOf]; omega
end Go.Proofs.Ytnajjofaijpciaa
