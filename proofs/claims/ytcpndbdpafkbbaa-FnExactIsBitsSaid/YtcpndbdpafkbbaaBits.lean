/-
  Plain facts on bit lists and on the bits of int64; no program is named here.
  Conditions: none.
-/
import Derived.Test.YtcpndbdpafkbbaaBase
namespace Go.G8
open Go.RowKit

/-! ### the bits of int64 -/
theorem i64_and1 (x : Int) : bits .and .i64 x 1 = x % 2 := by
  show IntKind.i64.wrap ((BitVec.ofInt 64 x &&& BitVec.ofInt 64 1).toNat : Int) = _
  have h1 : (BitVec.ofInt 64 1 : BitVec 64).toNat = 1 := by decide
  have h2 : ((BitVec.ofInt 64 x &&& BitVec.ofInt 64 1).toNat) = (BitVec.ofInt 64 x).toNat % 2 := by
    rw [BitVec.toNat_and, h1, Nat.and_one_is_mod]
  rw [h2, BitVec.toNat_ofInt, IntKind.wrap_i64]
  omega
theorem u8_and1 (x : Int) : bits .and .u8 x 1 = x % 2 := by
  show IntKind.u8.wrap ((BitVec.ofInt 8 x &&& BitVec.ofInt 8 1).toNat : Int) = _
  have h1 : (BitVec.ofInt 8 1 : BitVec 8).toNat = 1 := by decide
  have h2 : ((BitVec.ofInt 8 x &&& BitVec.ofInt 8 1).toNat) = (BitVec.ofInt 8 x).toNat % 2 := by
    rw [BitVec.toNat_and, h1, Nat.and_one_is_mod]
  rw [h2, BitVec.toNat_ofInt, IntKind.wrap_u8]
  omega
theorem nat_andNot1 (a : Nat) (ha : a < 18446744073709551616) : a &&& (18446744073709551615 - 1) = a / 2 * 2 := by
  apply Nat.eq_of_testBit_eq
  intro i
  rw [Nat.testBit_and, show (18446744073709551615 - 1 : Nat) = 2 ^ 64 - (1 + 1) from rfl, Nat.testBit_two_pow_sub_succ (by decide)]
  rcases i with _ | i
  · simp [Nat.testBit_zero]
  · rw [Nat.mul_comm, Nat.testBit_succ, show (2 * (a / 2)) = 2 * (a / 2) from rfl]
    rw [Nat.testBit_succ (2 * (a / 2))]
    simp
    intro h
    by_cases hi : i + 1 < 64
    · simp [hi, Nat.testBit_succ]
    · exfalso
      rw [Nat.testBit_lt_two_pow] at h
      · cases h
      · have : a / 2 < 2 ^ 63 := by omega
        exact Nat.lt_of_lt_of_le this (Nat.pow_le_pow_right (by decide) (by omega))
theorem i64_andNot1_no (x : Int) (h : -9223372036854775808 ≤ x ∧ x ≤ 9223372036854775807) (hx : ¬ (x = 0 ∨ x = 1)) : (bits .andNot .i64 x 1 != 0) = true := by
  rw [bne_iff_ne]
  show IntKind.i64.wrap ((BitVec.ofInt 64 x &&& ~~~ BitVec.ofInt 64 1).toNat : Int) ≠ 0
  have h1 : (~~~ (BitVec.ofInt 64 1) : BitVec 64).toNat = 18446744073709551615 - 1 := by decide
  rw [BitVec.toNat_and, h1, nat_andNot1 _ (BitVec.isLt _), BitVec.toNat_ofInt, IntKind.wrap_i64]
  omega
theorem nat_or_bit (n b : Nat) (hb : b < 2) : 2 * n ||| b = 2 * n + b := by
  have := Nat.two_pow_add_eq_or_of_lt (i := 1) (b := b) (by simpa using hb) n
  simpa using this.symm
theorem i64_or_bit (n b : Int) (h0 : 0 ≤ n) (h1 : n < 1152921504606846976) (hb : b = 0 ∨ b = 1) : bits .or .i64 (n * 2) b = 2 * n + b := by
  obtain ⟨m, rfl⟩ := Int.eq_ofNat_of_zero_le h0
  obtain ⟨c, rfl, hc⟩ : ∃ c : Nat, b = (c : Int) ∧ c < 2 := by rcases hb with rfl | rfl; exact ⟨0, rfl, by decide⟩; exact ⟨1, rfl, by decide⟩
  show IntKind.i64.wrap ((BitVec.ofInt 64 ((m : Int) * 2) ||| BitVec.ofInt 64 (c : Int)).toNat : Int) = _
  rw [BitVec.toNat_or, BitVec.toNat_ofInt, BitVec.toNat_ofInt]
  have e1 : ((m : Int) * 2 % ((2 ^ 64 : Nat) : Int)).toNat = 2 * m := by omega
  have e2 : ((c : Int) % ((2 ^ 64 : Nat) : Int)).toNat = c := by omega
  rw [e1, e2, nat_or_bit m c hc, IntKind.wrap_i64]
  omega
theorem i64_xor_bit (a b : Int) (ha : a = 0 ∨ a = 1) (hb : b = 0 ∨ b = 1) : bits .xor .i64 a b = if a = b then 0 else 1 := by
  rcases ha with rfl | rfl <;> rcases hb with rfl | rfl <;> decide

/-! ### bit lists -/
def isBits (xs : List Int) : Bool := decide (xs.length ≤ 8192) && xs.all (fun x => decide (0 ≤ x ∧ x ≤ 1))
theorem isBits_iff (xs : List Int) : isBits xs = true ↔ xs.length ≤ 8192 ∧ ∀ x ∈ xs, x = 0 ∨ x = 1 := by
  simp only [isBits, Bool.and_eq_true, decide_eq_true_eq, List.all_eq_true]
  constructor
  · rintro ⟨h, k⟩; exact ⟨h, fun x hx => by have := k x hx; omega⟩
  · rintro ⟨h, k⟩; exact ⟨h, fun x hx => by have := k x hx; omega⟩
theorem isBits_long {xs : List Int} (h : 8192 < xs.length) : isBits xs = false := by
  rw [Bool.eq_false_iff]; intro e; have := ((isBits_iff xs).1 e).1; omega
theorem isBits_at {xs : List Int} {k : Nat} {x : Int} (hx : xs[k]? = some x) (h : ¬ (x = 0 ∨ x = 1)) : isBits xs = false := by
  rw [Bool.eq_false_iff]; intro e; exact h (((isBits_iff xs).1 e).2 x (List.mem_of_getElem? hx))
theorem isBits_all {xs : List Int} (h : xs.length ≤ 8192) (k : ∀ x ∈ xs, x = 0 ∨ x = 1) : isBits xs = true := (isBits_iff xs).2 ⟨h, k⟩
theorem all_take {xs : List Int} {k : Nat} {x : Int} {p : Int → Prop} (hx : xs[k]? = some x) (h : ∀ y ∈ xs.take k, p y) (hp : p x) : ∀ y ∈ xs.take (k + 1), p y := by
  obtain ⟨hk, rfl⟩ := List.getElem?_eq_some_iff.1 hx
  rw [List.take_succ_eq_append_getElem hk]
  intro y hy
  rcases List.mem_append.1 hy with hy | hy
  · exact h y hy
  · simp at hy; subst hy; exact hp

/-- The number that bits write. -/
def num (xs : List Int) : Int := xs.foldl (fun n b => 2 * n + b) 0
theorem num_snoc (xs : List Int) (b : Int) : num (xs ++ [b]) = 2 * num xs + b := by simp [num]
theorem num_bd (xs : List Int) (h : ∀ x ∈ xs, x = 0 ∨ x = 1) : 0 ≤ num xs ∧ num xs < 2 ^ xs.length := by
  obtain ⟨m, hm⟩ : ∃ m, xs.length = m := ⟨_, rfl⟩
  induction m generalizing xs with
  | zero => obtain rfl := List.eq_nil_of_length_eq_zero hm; simp [num]
  | succ m ih =>
    rcases List.eq_nil_or_concat xs with rfl | ⟨ys, b, rfl⟩
    · simp at hm
    · have := ih ys (fun x hx => h x (by simp [hx])) (by simpa using hm)
      have hb := h b (by simp)
      simp only [List.concat_eq_append] at *
      rw [num_snoc, List.length_append, List.length_singleton, Int.pow_succ]
      omega
/-- The lowest w bits of v, the highest of them first. -/
def lowBits (v : Int) : Nat → List Int
  | 0 => []
  | w + 1 => (v / 2 ^ w % 2) :: lowBits v w
theorem lowBits_length (v : Int) (w : Nat) : (lowBits v w).length = w := by induction w <;> simp [lowBits, *]
theorem lowBits_bit (v : Int) (w : Nat) : ∀ x ∈ lowBits v w, x = 0 ∨ x = 1 := by
  induction w with
  | zero => simp [lowBits]
  | succ w ih =>
    intro x hx
    rcases List.mem_cons.1 hx with rfl | hx
    · omega
    · exact ih x hx
end Go.G8
