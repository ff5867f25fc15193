/-
  Plain laws of bit lists: texts and strings read back.
  Conditions: named at each law.
-/
import Derived.Test.YtagdkaigdehohaaBits
set_option linter.unusedVariables false
namespace Go.Proofs.Ytagdkaigdehohaa
open Go.RowKit Go.G8
theorem strI_nums {l : List Int} (h : ∀ x ∈ l, 0 ≤ x ∧ x ≤ 255) : strI (strOfNums l) = l := by
  unfold strI
  rw [strOfNums_data, List.map_map]
  have : ∀ x ∈ l, ((fun b : UInt8 => (b.toNat : Int)) ∘ fun n : Int => UInt8.ofNat n.toNat) x = x := by
    intro x hx
    have := h x hx
    simp
    omega
  rw [List.map_congr_left this, List.map_id']
theorem text_back {xs : List Int} (h : isBits xs = true) : rReadBits (rBitsText xs) = (xs, true) := by
  obtain ⟨h1, h2⟩ := (isBits_iff xs).1 h
  have hs : strI (strOfNums (xs.map (48 + ·))) = xs.map (48 + ·) := strI_nums (fun x hx => by
    obtain ⟨y, hy, rfl⟩ := List.mem_map.1 hx
    have := h2 y hy
    omega)
  unfold rBitsText rReadBits
  rw [h]
  simp only [if_true]
  rw [strOfNums_size, List.length_map, if_neg (by omega), hs]
  have ha : (xs.map (48 + ·)).all digitC = true := List.all_eq_true.2 (fun x hx => by
    obtain ⟨y, hy, rfl⟩ := List.mem_map.1 hx
    have := h2 y hy
    simp only [digitC, decide_eq_true_eq]
    omega)
  rw [ha]
  simp only [if_true]
  rw [List.map_map, List.map_congr_left (f := (fun x => x - 48) ∘ fun x => 48 + x) (g := fun x => x) (fun x _ => by simp only [Function.comp]; omega), List.map_id']
theorem text_no {xs : List Int} (h : isBits xs = false) : rReadBits (rBitsText xs) = ([], true) := by
  unfold rBitsText
  rw [h]
  rfl
theorem text_ok (xs : List Int) : (rReadBits (rBitsText xs)).2 = true := by
  cases h : isBits xs
  · rw [text_no h]
  · rw [text_back h]
theorem text_size (xs : List Int) : (rBitsText xs).size ≤ 8192 := by
  cases h : isBits xs
  · unfold rBitsText; rw [h, if_neg (by simp)]; decide
  · have := ((isBits_iff xs).1 h).1
    unfold rBitsText; rw [h]
    simp only [if_true]
    rw [strOfNums_size, List.length_map]
    exact this
theorem low_snoc (v : Int) (w : Nat) : lowBits v (w + 1) = lowBits (v / 2) w ++ [v % 2] := by
  induction w with
  | zero => simp [lowBits]
  | succ w ih =>
    rw [lowBits, ih, lowBits, List.cons_append]
    congr 2
    rw [Int.ediv_ediv_of_nonneg (by decide), Int.pow_succ, Int.mul_comm]
theorem low_num_of (n : Nat) : ∀ l : List Int, l.length = n → (∀ x ∈ l, x = 0 ∨ x = 1) → lowBits (num l) n = l := by
  induction n with
  | zero => intro l hl _; rw [List.eq_nil_of_length_eq_zero hl]; rfl
  | succ n ih =>
    intro l hl hb
    rcases List.eq_nil_or_concat l with rfl | ⟨ys, b, rfl⟩
    · simp at hl
    · simp only [List.concat_eq_append] at *
      have hbb := hb b (by simp)
      rw [num_snoc, low_snoc, show (2 * num ys + b) / 2 = num ys by omega, show (2 * num ys + b) % 2 = b by omega, ih ys (by simpa using hl) (fun x hx => hb x (by simp [hx]))]
theorem octs_back {xs : List Int} (h : ∀ x ∈ xs, x = 0 ∨ x = 1) (q : Nat) (hq : 8 * q ≤ xs.length) : bytesBits (octs xs q) = xs.take (8 * q) := by
  induction q with
  | zero => rfl
  | succ q ih =>
    have hl : (bpart xs (8 * q) 8).length = 8 := by unfold bpart; simp; omega
    rw [octs_succ, bytesBits_snoc, ih (by omega), low_num_of 8 _ hl (part_bits h _ _)]
    unfold bpart
    rw [show 8 * (q + 1) = 8 * q + 8 by omega, List.take_add]
theorem string_back {xs : List Int} (h : (rStringOfBits xs).2 = 0) : rBitsOfString (rStringOfBits xs).1 = (xs, 0) ∧ (rStringOfBits xs).1.size ≤ 1024 := by
  unfold rStringOfBits at *
  split at h
  · simp at h
  · rename_i hb
    split at h
    · simp at h
    · rename_i hm
      obtain ⟨h1, h2⟩ := (isBits_iff xs).1 (by simpa using hb)
      have hm' : xs.length % 8 = 0 := Classical.not_not.1 hm
      rw [if_neg hb, if_neg hm]
      have hs : strI (strOfNums (octs xs (xs.length / 8))) = octs xs (xs.length / 8) := strI_nums (fun x hx => by
        unfold octs at hx
        obtain ⟨j, hj, rfl⟩ := List.mem_map.1 hx
        exact part_num8 h2 _)
      have hz : (strOfNums (octs xs (xs.length / 8))).size ≤ 1024 := by rw [strOfNums_size, octs_length]; omega
      refine ⟨?_, hz⟩
      show rBitsOfString (strOfNums (octs xs (xs.length / 8))) = _
      unfold rBitsOfString
      rw [if_neg (by omega), hs, octs_back h2 _ (by omega), show 8 * (xs.length / 8) = xs.length by omega, List.take_length]
theorem string_size (xs : List Int) : (rStringOfBits xs).1.size ≤ 1024 := by
  by_cases h : (rStringOfBits xs).2 = 0
  · exact (string_back h).2
  · unfold rStringOfBits at *
    split
    · decide
    · rename_i hb
      rw [if_neg hb] at h
      split
      · decide
      · rename_i hm
        rw [if_neg hm] at h
        exact absurd rfl h
end Go.Proofs.Ytagdkaigdehohaa
