/-
  Contracts of chapter 1 of the program and of the reference: AppendBits.
  Conditions: named at each contract; they are bounds on lengths.
-/
import Derived.Test.YtagdkaigdehohaaL01d
set_option linter.unusedVariables false
namespace Go.Proofs.Ytagdkaigdehohaa
open Go.RowKit Go.G8

def rAppendBits (xs : List Int) (v wd : Int) : List Int × Int :=
  if isBits xs = false then ([], 1) else if ¬ (0 ≤ wd ∧ wd ≤ 32) ∨ ¬ (0 ≤ v ∧ v < 2 ^ wd.toNat) then ([], 2) else if (xs.length : Int) + wd > 8192 then ([], 3) else (xs ++ lowBits v wd.toNat, 0)
theorem rAppendBits_ok (xs : List Int) (v wd : Int) : (rAppendBits xs v wd).1.length ≤ 1000000 ∧ ∀ x ∈ (rAppendBits xs v wd).1, fits .i64 x := by
  unfold rAppendBits
  split
  · simp
  · rename_i hb
    split
    · simp
    · split
      · simp
      · have h1 := (isBits_iff xs).1 (by simpa using hb)
        refine ⟨by simp [lowBits_length]; omega, fun x hx => ?_⟩
        have : x = 0 ∨ x = 1 := by
          rcases List.mem_append.1 hx with hx | hx
          · exact h1.2 x hx
          · exact lowBits_bit _ _ x hx
        show -9223372036854775808 ≤ x ∧ x ≤ 9223372036854775807
        omega
theorem two_pow_bd (d : Nat) (h : d ≤ 32) : (1 : Int) ≤ 2 ^ d ∧ (2 : Int) ^ d ≤ 4294967296 := by
  have h1 : (2 : Nat) ^ d ≤ 2 ^ 32 := Nat.pow_le_pow_right (by decide) h
  have h2 : 0 < (2 : Nat) ^ d := Nat.pow_pos (by decide)
  have e : ((2 ^ d : Nat) : Int) = (2 : Int) ^ d := Int.natCast_pow 2 d
  rw [← e]
  omega

set_option maxRecDepth 100000 in
set_option maxHeartbeats 400000 in
theorem specAppendBits_any (a : Option Addr) (n c : Nat) (xs : List Int) (v wd : Int) (w : World) (h : Rd .i64 w a n xs) (hn : n ≤ 1000000000) (hV : -9223372036854775808 ≤ v ∧ v ≤ 9223372036854775807) (hW : -9223372036854775808 ≤ wd ∧ wd ≤ 9223372036854775807) :
    Calls Try.prog 46 #[.slice a n c, .int .i64 v, .int .i64 wd] w (RetRow2 .i64 2 (rAppendBits xs v wd).1 (.int .i64 (rAppendBits xs v wd).2) w) := by
  have HL := Lib.hid h.len
  obtain ⟨hA1, hA2⟩ := hV
  obtain ⟨hW1, hW2⟩ := hW
  cases hb : isBits xs with
  | false =>
    have hr := Lib.hid (show rAppendBits xs v wd = ([], 1) by unfold rAppendBits; rw [if_pos hb])
    go_enter Try.func46, Try.ntmps46
    go_wp2_with (go_at_call 85; refine (specIsBits_any _ _ _ _ _ h (by omega)).mono ?_; rintro e w' ⟨rfl, rfl⟩)
    go_ret2
    exact retRow2_nil hr.out (Below.refl _ _)
  | true =>
    have hbits := Lib.hid ((isBits_iff xs).1 hb)
    by_cases hw : 0 ≤ wd ∧ wd ≤ 32
    · obtain ⟨hw1, hw2⟩ := hw
      obtain ⟨d, rfl⟩ := Int.eq_ofNat_of_zero_le hw1
      obtain ⟨hp1, hp2⟩ := two_pow_bd d (by omega)
      by_cases hv : 0 ≤ v ∧ v < 2 ^ d
      · by_cases hl : (n : Int) + d > 8192
        · have hr := Lib.hid (show rAppendBits xs v d = ([], 3) by
            unfold rAppendBits; rw [if_neg (by simp [hb]), if_neg (by simp only [Int.toNat_natCast]; omega), if_pos (by rw [HL.out]; omega)])
          obtain ⟨hv1, hv2⟩ := hv
          go_enter Try.func46, Try.ntmps46
          go_wp2_with (first | (go_at_call 85; refine (specIsBits_any _ _ _ _ _ h (by omega)).mono ?_; rintro e w' ⟨rfl, rfl⟩) | (go_at_call 61; refine (l01In_yes _ _ _ _ (by omega)).mono ?_; rintro e w' ⟨rfl, rfl⟩))
          go_ret2
          exact retRow2_nil hr.out (Below.refl _ _)
        · have hr := Lib.hid (show rAppendBits xs v d = (xs ++ lowBits v d, 0) by
            unfold rAppendBits; rw [if_neg (by simp [hb]), if_neg (by simp only [Int.toNat_natCast]; omega), if_neg (by rw [HL.out]; omega)]; rfl)
          obtain ⟨hv1, hv2⟩ := hv
          go_enter Try.func46, Try.ntmps46
          go_wp2_with (first | (go_at_call 85; refine (specIsBits_any _ _ _ _ _ h (by omega)).mono ?_; rintro e w' ⟨rfl, rfl⟩) | (go_at_call 61; refine (l01In_yes _ _ _ _ (by omega)).mono ?_; rintro e w' ⟨rfl, rfl⟩) | (go_at_call 86; refine (l01Append_any _ _ _ xs _ _ _ h (by omega) ⟨hA1, hA2⟩ (by omega) (by omega)).mono ?_; rintro e w1 ⟨a1, n1, c1, rfl, ho1, hb1⟩))
          go_ret2
          exact retRow2_of hr.out ho1 hb1
      · have hr := Lib.hid (show rAppendBits xs v d = ([], 2) by
          unfold rAppendBits; rw [if_neg (by simp [hb]), if_pos (by simp only [Int.toNat_natCast]; omega)])
        go_enter Try.func46, Try.ntmps46
        go_wp2_with (first | (go_at_call 85; refine (specIsBits_any _ _ _ _ _ h (by omega)).mono ?_; rintro e w' ⟨rfl, rfl⟩) | (go_at_call 61; refine (l01In_yes _ _ _ _ (by omega)).mono ?_; rintro e w' ⟨rfl, rfl⟩) | (go_at_call 61; refine (l01In_no _ _ _ _ (by omega)).mono ?_; rintro e w' ⟨rfl, rfl⟩))
        go_ret2
        exact retRow2_nil hr.out (Below.refl _ _)
    · have hr := Lib.hid (show rAppendBits xs v wd = ([], 2) by
        unfold rAppendBits; rw [if_neg (by simp [hb]), if_pos (by omega)])
      go_enter Try.func46, Try.ntmps46
      go_wp2_with (first | (go_at_call 85; refine (specIsBits_any _ _ _ _ _ h (by omega)).mono ?_; rintro e w' ⟨rfl, rfl⟩) | (go_at_call 61; refine (l01In_no _ _ _ _ (by omega)).mono ?_; rintro e w' ⟨rfl, rfl⟩))
      go_ret2
      exact retRow2_nil hr.out (Below.refl _ _)
set_option maxRecDepth 100000 in
set_option maxHeartbeats 400000 in
theorem implAppendBits_any (a : Option Addr) (n c : Nat) (xs : List Int) (v wd : Int) (w : World) (h : Rd .i64 w a n xs) (hn : n ≤ 1000000000) (hV : -9223372036854775808 ≤ v ∧ v ≤ 9223372036854775807) (hW : -9223372036854775808 ≤ wd ∧ wd ≤ 9223372036854775807) :
    Calls Try.prog 45 #[.slice a n c, .int .i64 v, .int .i64 wd] w (RetRow2 .i64 2 (rAppendBits xs v wd).1 (.int .i64 (rAppendBits xs v wd).2) w) := by
  have HL := Lib.hid h.len
  obtain ⟨hA1, hA2⟩ := hV
  obtain ⟨hW1, hW2⟩ := hW
  cases hb : isBits xs with
  | false =>
    have hr := Lib.hid (show rAppendBits xs v wd = ([], 1) by unfold rAppendBits; rw [if_pos hb])
    go_enter Try.func45, Try.ntmps45
    go_wp2_with (go_at_call 58; refine (implIsBits_any _ _ _ _ _ h (by omega)).mono ?_; rintro e w' ⟨rfl, rfl⟩)
    go_ret2
    exact retRow2_nil hr.out (Below.refl _ _)
  | true =>
    have hbits := Lib.hid ((isBits_iff xs).1 hb)
    by_cases hw : 0 ≤ wd ∧ wd ≤ 32
    · obtain ⟨hw1, hw2⟩ := hw
      obtain ⟨d, rfl⟩ := Int.eq_ofNat_of_zero_le hw1
      obtain ⟨hp1, hp2⟩ := two_pow_bd d (by omega)
      by_cases hv0 : 0 ≤ v
      · by_cases hv : v < 2 ^ d
        · have hq : v / 2 ^ d = 0 := Int.ediv_eq_zero_of_lt hv0 hv
          have hqb : (v / 2 ^ d != 0) = false := by rw [hq]; rfl
          clear hq
          by_cases hl : (n : Int) + d > 8192
          · have hr := Lib.hid (show rAppendBits xs v d = ([], 3) by
              unfold rAppendBits; rw [if_neg (by simp [hb]), if_neg (by simp only [Int.toNat_natCast]; omega), if_pos (by rw [HL.out]; omega)])
            go_enter Try.func45, Try.ntmps45
            go_wp2_with (first | (go_at_call 58; refine (implIsBits_any _ _ _ _ _ h (by omega)).mono ?_; rintro e w' ⟨rfl, rfl⟩) | (go_at_call 64; refine (inRange_yes _ _ _ _ (by omega)).mono ?_; rintro e w' ⟨rfl, rfl⟩))
            go_ret2
            exact retRow2_nil hr.out (Below.refl _ _)
          · have hr := Lib.hid (show rAppendBits xs v d = (xs ++ lowBits v d, 0) by
              unfold rAppendBits; rw [if_neg (by simp [hb]), if_neg (by simp only [Int.toNat_natCast]; omega), if_neg (by rw [HL.out]; omega)]; rfl)
            go_enter Try.func45, Try.ntmps45
            go_wp2_with (first | (go_at_call 58; refine (implIsBits_any _ _ _ _ _ h (by omega)).mono ?_; rintro e w' ⟨rfl, rfl⟩) | (go_at_call 64; refine (inRange_yes _ _ _ _ (by omega)).mono ?_; rintro e w' ⟨rfl, rfl⟩))
            refine (copyOf_any _ _ _ xs _ h (by omega)).mono ?_
            rintro e w1 ⟨a1, n1, c1, rfl, ho1, hb1⟩
            have hn1 : n1 ≤ 100000000 := by have e1 := ho1.len; have e2 := h.len; omega
            go_wp2_with fail
            refine (appendNumber_any w.heap.size _ _ _ xs _ _ _ ho1 hb1.size hn1 ⟨hA1, hA2⟩ (by omega) (by omega)).mono ?_
            rintro e w2 ⟨a2, n2, c2, rfl, ho2, hb2⟩
            go_wp2_with fail
            go_ret2
            exact retRow2_of hr.out ho2 (hb1.trans hb2)
        · have hqb : (v / 2 ^ d != 0) = true := by
            rw [bne_iff_ne]
            have := Int.le_ediv_of_mul_le (a := 1) (b := v) (c := 2 ^ d) (by omega) (by omega)
            omega
          have hr := Lib.hid (show rAppendBits xs v d = ([], 2) by
            unfold rAppendBits; rw [if_neg (by simp [hb]), if_pos (by simp only [Int.toNat_natCast]; omega)])
          go_enter Try.func45, Try.ntmps45
          go_wp2_with (first | (go_at_call 58; refine (implIsBits_any _ _ _ _ _ h (by omega)).mono ?_; rintro e w' ⟨rfl, rfl⟩) | (go_at_call 64; refine (inRange_yes _ _ _ _ (by omega)).mono ?_; rintro e w' ⟨rfl, rfl⟩))
          go_ret2
          exact retRow2_nil hr.out (Below.refl _ _)
      · have hv1 : v < 0 := by omega
        have hr := Lib.hid (show rAppendBits xs v d = ([], 2) by
          unfold rAppendBits; rw [if_neg (by simp [hb]), if_pos (by simp only [Int.toNat_natCast]; omega)])
        clear hv0
        go_enter Try.func45, Try.ntmps45
        go_wp2_with (first | (go_at_call 58; refine (implIsBits_any _ _ _ _ _ h (by omega)).mono ?_; rintro e w' ⟨rfl, rfl⟩) | (go_at_call 64; refine (inRange_yes _ _ _ _ (by omega)).mono ?_; rintro e w' ⟨rfl, rfl⟩))
        go_ret2
        exact retRow2_nil hr.out (Below.refl _ _)
    · have hr := Lib.hid (show rAppendBits xs v wd = ([], 2) by
        unfold rAppendBits; rw [if_neg (by simp [hb]), if_pos (by omega)])
      go_enter Try.func45, Try.ntmps45
      go_wp2_with (first | (go_at_call 58; refine (implIsBits_any _ _ _ _ _ h (by omega)).mono ?_; rintro e w' ⟨rfl, rfl⟩) | (go_at_call 64; refine (inRange_no _ _ _ _ (by omega)).mono ?_; rintro e w' ⟨rfl, rfl⟩))
      go_ret2
      exact retRow2_nil hr.out (Below.refl _ _)
end Go.Proofs.Ytagdkaigdehohaa
