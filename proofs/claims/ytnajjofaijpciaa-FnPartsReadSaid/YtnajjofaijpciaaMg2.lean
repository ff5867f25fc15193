/-
  Texts of the proof, one behind the other: each bears its own heading.
  Conditions: as the headings say.
-/
import Derived.Test.YtnajjofaijpciaaMg1
/-
  Contracts of the reference's small functions for segments: groups, widths, lengths, characters.
  Conditions: modes that write text.
-/
set_option linter.unusedVariables false
namespace Go.Proofs.Ytnajjofaijpciaa
open Go.RowKit Go.G8
def gSize (m : Int) : Int := if m = 1 then 3 else if m = 2 then 2 else 1
def gBase (m : Int) : Int := if m = 1 then 10 else if m = 2 then 45 else 256
def gWidth (m n : Int) : Int := if m = 1 then (if n = 1 then 4 else if n = 2 then 7 else if n = 3 then 10 else 0) else if m = 2 then (if n = 1 then 6 else if n = 2 then 11 else 0) else if m = 3 then 5 else 8
def gChars (m : Int) : List Int := if m = 1 then [48, 49, 50, 51, 52, 53, 54, 55, 56, 57] else if m = 2 then [48, 49, 50, 51, 52, 53, 54, 55, 56, 57, 65, 66, 67, 68, 69, 70, 71, 72, 73, 74, 75, 76, 77, 78, 79, 80, 81, 82, 83, 84, 85, 86, 87, 88, 89, 90, 32, 33, 35, 38, 40, 41, 43, 45, 47] else if m = 3 then [97, 98, 99, 100, 101, 102, 103, 104, 105, 106, 107, 108, 109, 110, 111, 112, 113, 114, 115, 116, 117, 118, 119, 120, 121, 122, 32, 10, 44, 46, 39, 63] else []
theorem mode_cases {m : Int} (h : 1 ≤ m ∧ m ≤ 4) : m = 1 ∨ m = 2 ∨ m = 3 ∨ m = 4 := by omega
theorem l09Group_any (m : Int) (w : World) (h : 1 ≤ m ∧ m ≤ 4) : Calls Try.prog 55 #[.int .i64 m] w (RetS (.tuple #[.int .i64 (gSize m), .int .i64 (gBase m)]) w) := by
  rcases mode_cases h with rfl | rfl | rfl | rfl
  all_goals
    go_enter Try.func55, Try.ntmps55
    go_wp2
    go_ret2
    exact ⟨rfl, rfl⟩
theorem l09Width_any (m n : Int) (w : World) (h : 1 ≤ m ∧ m ≤ 4) (hn : 1 ≤ n ∧ n ≤ gSize m) : Calls Try.prog 56 #[.int .i64 m, .int .i64 n] w (Ret (.int .i64 (gWidth m n)) w) := by
  rcases mode_cases h with rfl | rfl | rfl | rfl
  · have hn2 : n ≤ 3 := hn.2
    have hc : n = 1 ∨ n = 2 ∨ n = 3 := by omega
    clear hn hn2
    rcases hc with rfl | rfl | rfl
    all_goals
      go_enter Try.func56, Try.ntmps56
      go_wp2
      go_ret
      exact ⟨rfl, Below.alloc (Below.refl _ _) (Nat.le_refl _) _⟩
  · have hn2 : n ≤ 2 := hn.2
    have hc : n = 1 ∨ n = 2 := by omega
    clear hn hn2
    rcases hc with rfl | rfl
    all_goals
      go_enter Try.func56, Try.ntmps56
      go_wp2
      go_ret
      exact ⟨rfl, Below.alloc (Below.refl _ _) (Nat.le_refl _) _⟩
  all_goals
    have hc : n = 1 := by have : n ≤ 1 := hn.2; omega
    subst hc
    go_enter Try.func56, Try.ntmps56
    go_wp2
    go_ret
    exact ⟨rfl, Below.refl _ _⟩
end Go.Proofs.Ytnajjofaijpciaa
/-
  Plain facts on bit lists and on the bits of int64; no program is named here.
  Conditions: none.
-/
namespace Go.G8
open Go.RowKit

/-! ### the bits of int64 -/
theorem i64_and1 (x : Int) : bits .and .i64 x 1 = x % 2 := by
  show IntKind.i64.wrap ((BitVec.ofInt 64 x &&& BitVec.ofInt 64 1).toNat : Int) = _
  have h1 : (BitVec.ofInt 64 1 : BitVec 64).toNat = 1 := by decide
  have h2 : ((BitVec.ofInt 64 x &&& BitVec.ofInt 64 1).toNat) = (BitVec.ofInt 64 x).toNat % 2 := by
    rw [BitVec.toNat_and, h1, Nat.and_one_is_mod]
  rw [h2, BitVec.toNat_ofInt, IntKind.wrap_i64]
  omega
theorem u8_and1 (x : Int) : bits .and .u8 x 1 = x % 2 := by
  show IntKind.u8.wrap ((BitVec.ofInt 8 x &&& BitVec.ofInt 8 1).toNat : Int) = _
  have h1 : (BitVec.ofInt 8 1 : BitVec 8).toNat = 1 := by decide
  have h2 : ((BitVec.ofInt 8 x &&& BitVec.ofInt 8 1).toNat) = (BitVec.ofInt 8 x).toNat % 2 := by
    rw [BitVec.toNat_and, h1, Nat.and_one_is_mod]
  rw [h2, BitVec.toNat_ofInt, IntKind.wrap_u8]
  omega
theorem nat_andNot1 (a : Nat) (ha : a < 18446744073709551616) : a &&& (18446744073709551615 - 1) = a / 2 * 2 := by
  apply Nat.eq_of_testBit_eq
  intro i
  rw [Nat.testBit_and, show (18446744073709551615 - 1 : Nat) = 2 ^ 64 - (1 + 1) from rfl, Nat.testBit_two_pow_sub_succ (by decide)]
  rcases i with _ | i
  · simp [Nat.testBit_zero]
  · rw [Nat.mul_comm, Nat.testBit_succ, show (2 * (a / 2)) = 2 * (a / 2) from rfl]
    rw [Nat.testBit_succ (2 * (a / 2))]
    simp
    intro h
    by_cases hi : i + 1 < 64
    · simp [hi, Nat.testBit_succ]
    · exfalso
      rw [Nat.testBit_lt_two_pow] at h
      · cases h
      · have : a / 2 < 2 ^ 63 := by omega
        exact Nat.lt_of_lt_of_le this (Nat.pow_le_pow_right (by decide) (by omega))
theorem i64_andNot1_no (x : Int) (h : -9223372036854775808 ≤ x ∧ x ≤ 9223372036854775807) (hx : ¬ (x = 0 ∨ x = 1)) : (bits .andNot .i64 x 1 != 0) = true := by
  rw [bne_iff_ne]
  show IntKind.i64.wrap ((BitVec.ofInt 64 x &&& ~~~ BitVec.ofInt 64 1).toNat : Int) ≠ 0
  have h1 : (~~~ (BitVec.ofInt 64 1) : BitVec 64).toNat = 18446744073709551615 - 1 := by decide
  rw [BitVec.toNat_and, h1, nat_andNot1 _ (BitVec.isLt _), BitVec.toNat_ofInt, IntKind.wrap_i64]
  omega
theorem nat_or_bit (n b : Nat) (hb : b < 2) : 2 * n ||| b = 2 * n + b := by
  have := Nat.two_pow_add_eq_or_of_lt (i := 1) (b := b) (by simpa using hb) n
  simpa using this.symm
theorem i64_or_bit (n b : Int) (h0 : 0 ≤ n) (h1 : n < 1152921504606846976) (hb : b = 0 ∨ b = 1) : bits .or .i64 (n * 2) b = 2 * n + b := by
  obtain ⟨m, rfl⟩ := Int.eq_ofNat_of_zero_le h0
  obtain ⟨c, rfl, hc⟩ : ∃ c : Nat, b = (c : Int) ∧ c < 2 := by rcases hb with rfl | rfl; exact ⟨0, rfl, by decide⟩; exact ⟨1, rfl, by decide⟩
  show IntKind.i64.wrap ((BitVec.ofInt 64 ((m : Int) * 2) ||| BitVec.ofInt 64 (c : Int)).toNat : Int) = _
  rw [BitVec.toNat_or, BitVec.toNat_ofInt, BitVec.toNat_ofInt]
  have e1 : ((m : Int) * 2 % ((2 ^ 64 : Nat) : Int)).toNat = 2 * m := by omega
  have e2 : ((c : Int) % ((2 ^ 64 : Nat) : Int)).toNat = c := by omega
  rw [e1, e2, nat_or_bit m c hc, IntKind.wrap_i64]
  omega
theorem i64_xor_bit (a b : Int) (ha : a = 0 ∨ a = 1) (hb : b = 0 ∨ b = 1) : bits .xor .i64 a b = if a = b then 0 else 1 := by
  rcases ha with rfl | rfl <;> rcases hb with rfl | rfl <;> decide

/-! ### bit lists -/
def isBits (xs : List Int) : Bool := decide (xs.length ≤ 8192) && xs.all (fun x => decide (0 ≤ x ∧ x ≤ 1))
theorem isBits_iff (xs : List Int) : isBits xs = true ↔ xs.length ≤ 8192 ∧ ∀ x ∈ xs, x = 0 ∨ x = 1 := by
  simp only [isBits, Bool.and_eq_true, decide_eq_true_eq, List.all_eq_true]
  constructor
  · rintro ⟨h, k⟩; exact ⟨h, fun x hx => by have := k x hx; omega⟩
  · rintro ⟨h, k⟩; exact ⟨h, fun x hx => by have := k x hx; omega⟩
theorem isBits_long {xs : List Int} (h : 8192 < xs.length) : isBits xs = false := by
  rw [Bool.eq_false_iff]; intro e; have := ((isBits_iff xs).1 e).1; omega
theorem isBits_at {xs : List Int} {k : Nat} {x : Int} (hx : xs[k]? = some x) (h : ¬ (x = 0 ∨ x = 1)) : isBits xs = false := by
  rw [Bool.eq_false_iff]; intro e; exact h (((isBits_iff xs).1 e).2 x (List.mem_of_getElem? hx))
theorem isBits_all {xs : List Int} (h : xs.length ≤ 8192) (k : ∀ x ∈ xs, x = 0 ∨ x = 1) : isBits xs = true := (isBits_iff xs).2 ⟨h, k⟩
theorem all_take {xs : List Int} {k : Nat} {x : Int} {p : Int → Prop} (hx : xs[k]? = some x) (h : ∀ y ∈ xs.take k, p y) (hp : p x) : ∀ y ∈ xs.take (k + 1), p y := by
  obtain ⟨hk, rfl⟩ := List.getElem?_eq_some_iff.1 hx
  rw [List.take_succ_eq_append_getElem hk]
  intro y hy
  rcases List.mem_append.1 hy with hy | hy
  · exact h y hy
  · simp at hy; subst hy; exact hp

/-- The number that bits write. -/
def num (xs : List Int) : Int := xs.foldl (fun n b => 2 * n + b) 0
theorem num_snoc (xs : List Int) (b : Int) : num (xs ++ [b]) = 2 * num xs + b := by simp [num]
theorem num_bd (xs : List Int) (h : ∀ x ∈ xs, x = 0 ∨ x = 1) : 0 ≤ num xs ∧ num xs < 2 ^ xs.length := by
  obtain ⟨m, hm⟩ : ∃ m, xs.length = m := ⟨_, rfl⟩
  induction m generalizing xs with
  | zero => obtain rfl := List.eq_nil_of_length_eq_zero hm; simp [num]
  | succ m ih =>
    rcases List.eq_nil_or_concat xs with rfl | ⟨ys, b, rfl⟩
    · simp at hm
    · have := ih ys (fun x hx => h x (by simp [hx])) (by simpa using hm)
      have hb := h b (by simp)
      simp only [List.concat_eq_append] at *
      rw [num_snoc, List.length_append, List.length_singleton, Int.pow_succ]
      omega
/-- The lowest w bits of v, the highest of them first. -/
def lowBits (v : Int) : Nat → List Int
  | 0 => []
  | w + 1 => (v / 2 ^ w % 2) :: lowBits v w
theorem lowBits_length (v : Int) (w : Nat) : (lowBits v w).length = w := by induction w <;> simp [lowBits, *]
theorem lowBits_bit (v : Int) (w : Nat) : ∀ x ∈ lowBits v w, x = 0 ∨ x = 1 := by
  induction w with
  | zero => simp [lowBits]
  | succ w ih =>
    intro x hx
    rcases List.mem_cons.1 hx with rfl | hx
    · omega
    · exact ih x hx

/-! ### strings as lists of numbers -/
def strI (s : ByteArray) : List Int := s.data.toList.map (fun b => (b.toNat : Int))
theorem strI_length (s : ByteArray) : (strI s).length = s.size := by simp [strI]
theorem str_at (s : ByteArray) (k : Nat) (h : k < s.size) : ∃ x : Int, ((s[k]'h).toNat : Int) = x ∧ Hid ((strI s)[k]? = some x) ∧ 0 ≤ x ∧ x ≤ 255 := by
  refine ⟨_, rfl, ?_, by omega, by have := UInt8.toNat_lt (s[k]'h); omega⟩
  show (strI s)[k]? = _
  have hk : k < s.data.toList.length := by simpa using h
  rw [strI, List.getElem?_map, List.getElem?_eq_getElem hk]
  rfl
theorem take_snoc {xs : List Int} {k : Nat} {x : Int} (hx : xs[k]? = some x) : xs.take (k + 1) = xs.take k ++ [x] := by
  obtain ⟨hk, rfl⟩ := List.getElem?_eq_some_iff.1 hx
  exact List.take_succ_eq_append_getElem hk

theorem all_snoc {xs : List Int} {k : Nat} {x : Int} {p : Int → Bool} (hx : xs[k]? = some x) (h : (xs.take k).all p = true) (hp : p x = true) : (xs.take (k + 1)).all p = true := by
  rw [take_snoc hx, List.all_append, h]; simp [hp]
def digitC (x : Int) : Bool := decide (x = 48 ∨ x = 49)
def rReadBits (s : ByteArray) : List Int × Bool :=
  if 8192 < s.size then ([], false) else if (strI s).all digitC then ((strI s).map (· - 48), true) else ([], false)
theorem rReadBits_ok (s : ByteArray) : (rReadBits s).1.length ≤ 1000000 ∧ ∀ x ∈ (rReadBits s).1, fits .i64 x := by
  unfold rReadBits
  split
  · simp
  · split
    · rename_i h1 h2
      refine ⟨by simp [strI_length]; omega, fun x hx => ?_⟩
      obtain ⟨y, hy, rfl⟩ := List.mem_map.1 hx
      have := List.all_eq_true.1 h2 y hy
      simp [digitC] at this
      show -9223372036854775808 ≤ y - 48 ∧ y - 48 ≤ 9223372036854775807
      omega
    · simp
theorem digit_bad {l : List Int} {k : Nat} {x : Int} (hx : l[k]? = some x) (h : ¬ (x = 48 ∨ x = 49)) : l.all digitC = false := by
  rw [Bool.eq_false_iff]
  intro e
  have := List.all_eq_true.1 e x (List.mem_of_getElem? hx)
  simp [digitC] at this
  exact h this

def bytesBits (l : List Int) : List Int := l.flatMap (fun x => lowBits x 8)
theorem bytesBits_length (l : List Int) : (bytesBits l).length = 8 * l.length := by
  induction l with
  | nil => rfl
  | cons x l ih => simp only [bytesBits, List.flatMap_cons, List.length_append, lowBits_length, List.length_cons] at *; omega
theorem bytesBits_snoc (l : List Int) (x : Int) : bytesBits (l ++ [x]) = bytesBits l ++ lowBits x 8 := by simp [bytesBits]
theorem bytesBits_bit (l : List Int) : ∀ x ∈ bytesBits l, x = 0 ∨ x = 1 := by
  intro x hx
  obtain ⟨y, _, hy⟩ := List.mem_flatMap.1 hx
  exact lowBits_bit y 8 x hy
def rBitsOfString (s : ByteArray) : List Int × Int := if 1024 < s.size then ([], 3) else (bytesBits (strI s), 0)
theorem rBitsOfString_ok (s : ByteArray) : (rBitsOfString s).1.length ≤ 1000000 ∧ ∀ x ∈ (rBitsOfString s).1, fits .i64 x := by
  unfold rBitsOfString
  split
  · simp
  · refine ⟨by rw [bytesBits_length, strI_length]; omega, fun x hx => ?_⟩
    have := bytesBits_bit _ x hx
    show -9223372036854775808 ≤ x ∧ x ≤ 9223372036854775807
    omega
def rBitsText (xs : List Int) : ByteArray := if isBits xs then strOfNums (xs.map (48 + ·)) else ByteArray.empty
/-- The bits of a part of a list. -/
def bpart (xs : List Int) (i w : Nat) : List Int := (xs.drop i).take w
theorem part_snoc {xs : List Int} {i j : Nat} {x : Int} (hx : xs[i + j]? = some x) : bpart xs i (j + 1) = bpart xs i j ++ [x] := by
  have hk : j < (xs.drop i).length := by have := (List.getElem?_eq_some_iff.1 hx).1; simp; omega
  unfold bpart
  rw [List.take_succ_eq_append_getElem hk]
  congr 1
  have : (xs.drop i)[j]? = some x := by rw [List.getElem?_drop]; exact hx
  rw [List.getElem?_eq_getElem hk] at this
  rw [Option.some.inj this]
theorem part_bits {xs : List Int} (h : ∀ x ∈ xs, x = 0 ∨ x = 1) (i w : Nat) : ∀ x ∈ bpart xs i w, x = 0 ∨ x = 1 := fun x hx => h x (List.mem_of_mem_drop (List.mem_of_mem_take hx))
theorem part_num {xs : List Int} (h : ∀ x ∈ xs, x = 0 ∨ x = 1) (i j : Nat) (hj : j ≤ 32) : 0 ≤ num (bpart xs i j) ∧ num (bpart xs i j) < 4294967296 := by
  have h1 := num_bd (bpart xs i j) (part_bits h i j)
  have h2 : (bpart xs i j).length ≤ 32 := by unfold bpart; have := List.length_take_le j (xs.drop i); omega
  have h3 : (2 : Int) ^ (bpart xs i j).length ≤ 2 ^ 32 := by
    have : (2 : Nat) ^ (bpart xs i j).length ≤ 2 ^ 32 := Nat.pow_le_pow_right (by decide) h2
    have e : ((2 ^ (bpart xs i j).length : Nat) : Int) = (2 : Int) ^ (bpart xs i j).length := Int.natCast_pow 2 _
    rw [← e]; omega
  omega
theorem part_num8 {xs : List Int} (h : ∀ x ∈ xs, x = 0 ∨ x = 1) (i : Nat) : 0 ≤ num (bpart xs i 8) ∧ num (bpart xs i 8) ≤ 255 := by
  have h1 := num_bd (bpart xs i 8) (part_bits h i 8)
  have h2 : (bpart xs i 8).length ≤ 8 := by unfold bpart; exact List.length_take_le 8 (xs.drop i)
  have h3 : (2 : Int) ^ (bpart xs i 8).length ≤ 2 ^ 8 := by
    have : (2 : Nat) ^ (bpart xs i 8).length ≤ 2 ^ 8 := Nat.pow_le_pow_right (by decide) h2
    have e : ((2 ^ (bpart xs i 8).length : Nat) : Int) = (2 : Int) ^ (bpart xs i 8).length := Int.natCast_pow 2 _
    rw [← e]; omega
  omega
/-- The bytes that bits write. -/
def octs (xs : List Int) (m : Nat) : List Int := (List.range m).map (fun j => num (bpart xs (8 * j) 8))
theorem octs_succ (xs : List Int) (m : Nat) : octs xs (m + 1) = octs xs m ++ [num (bpart xs (8 * m) 8)] := by simp [octs, List.range_succ]
theorem octs_length (xs : List Int) (m : Nat) : (octs xs m).length = m := by simp [octs]
def rStringOfBits (xs : List Int) : ByteArray × Int :=
  if isBits xs = false then (ByteArray.empty, 1) else if ¬ xs.length % 8 = 0 then (ByteArray.empty, 5) else (strOfNums (octs xs (xs.length / 8)), 0)
theorem ret2_str {k : IntKind} {a : ByteArray} {b : Int} {r : ByteArray × Int} (h : r = (a, b)) : Ending.returned (.tuple #[.string a, .int k b]) = .returned (.tuple #[.string r.1, .int k r.2]) := by rw [h]
theorem ret_str {a b : ByteArray} (h : a = b) : Ending.returned (.string a) = .returned (.string b) := by rw [h]
end Go.G8
