/-
  Contracts of chapter 1 of the program and of the reference: NumberAt.
  Conditions: named at each contract; they are bounds on lengths.
-/
import Derived.Test.YtagdkaigdehohaaL01b
set_option linter.unusedVariables false
namespace Go.Proofs.Ytagdkaigdehohaa
open Go.RowKit Go.G8

def rNumberAt (xs : List Int) (at_ wd : Int) : Int × Int :=
  if isBits xs = false then (0, 1) else if ¬ (0 ≤ wd ∧ wd ≤ 32) ∨ ¬ (0 ≤ at_ ∧ at_ ≤ (xs.length : Int) - wd) then (0, 2) else (num (bpart xs at_.toNat wd.toNat), 0)

theorem implNumberAt_any (a : Option Addr) (n c : Nat) (xs : List Int) (at_ wd : Int) (w : World) (h : Rd .i64 w a n xs) (hn : n ≤ 1000000000) (hc : n ≤ c ∧ c ≤ 9223372036854775807) (hA : -9223372036854775808 ≤ at_ ∧ at_ ≤ 9223372036854775807) (hW : -9223372036854775808 ≤ wd ∧ wd ≤ 9223372036854775807) :
    Calls Try.prog 47 #[.slice a n c, .int .i64 at_, .int .i64 wd] w (RetS (.tuple #[.int .i64 (rNumberAt xs at_ wd).1, .int .i64 (rNumberAt xs at_ wd).2]) w) := by
  have HL := Lib.hid h.len
  obtain ⟨hA1, hA2⟩ := hA
  obtain ⟨hW1, hW2⟩ := hW
  obtain ⟨hc1, hc2⟩ := hc
  cases hb : isBits xs with
  | false =>
    have hr := Lib.hid (show rNumberAt xs at_ wd = (0, 1) by simp [rNumberAt, hb])
    go_enter Try.func47, Try.ntmps47
    go_wp2_with (go_at_call 58; refine (implIsBits_any _ _ _ _ _ h (by omega)).mono ?_; rintro e w' ⟨rfl, rfl⟩)
    go_ret2
    exact ⟨ret2_int hr.out, rfl⟩
  | true =>
    have hbits := Lib.hid ((isBits_iff xs).1 hb).2
    by_cases hw : 0 ≤ wd ∧ wd ≤ 32
    · by_cases ha : 0 ≤ at_ ∧ at_ ≤ (n : Int) - wd
      · have hr := Lib.hid (show rNumberAt xs at_ wd = (num (bpart xs at_.toNat wd.toNat), 0) by
          unfold rNumberAt; rw [if_neg (by simp [hb]), if_neg (by rw [HL.out]; omega)])
        obtain ⟨hw1, hw2⟩ := hw
        obtain ⟨ha1, ha2⟩ := ha
        go_enter Try.func47, Try.ntmps47
        go_wp2_with (first | (go_at_call 58; refine (implIsBits_any _ _ _ _ _ h (by omega)).mono ?_; rintro e w' ⟨rfl, rfl⟩) | (go_at_call 64; refine (inRange_yes _ _ _ _ (by omega)).mono ?_; rintro e w' ⟨rfl, rfl⟩) | (go_at_call 87; refine (numberAt_any _ _ _ xs _ _ _ h hbits (by omega) (by omega) (by omega) (by omega) (by omega) (by omega) (by omega)).mono ?_; rintro e w' ⟨rfl, rfl⟩))
        go_ret2
        exact ⟨ret2_int hr.out, rfl⟩
      · have hr := Lib.hid (show rNumberAt xs at_ wd = (0, 2) by
          unfold rNumberAt; rw [if_neg (by simp [hb]), if_pos (by rw [HL.out]; omega)])
        obtain ⟨hw1, hw2⟩ := hw
        by_cases ha0 : 0 ≤ at_
        · have ha2 : (n : Int) - wd < at_ := by omega
          clear ha
          go_enter Try.func47, Try.ntmps47
          go_wp2_with (first | (go_at_call 58; refine (implIsBits_any _ _ _ _ _ h (by omega)).mono ?_; rintro e w' ⟨rfl, rfl⟩) | (go_at_call 64; refine (inRange_yes _ _ _ _ (by omega)).mono ?_; rintro e w' ⟨rfl, rfl⟩))
          go_ret2
          exact ⟨ret2_int hr.out, rfl⟩
        · have ha2 : at_ < 0 := by omega
          clear ha ha0
          go_enter Try.func47, Try.ntmps47
          go_wp2_with (first | (go_at_call 58; refine (implIsBits_any _ _ _ _ _ h (by omega)).mono ?_; rintro e w' ⟨rfl, rfl⟩) | (go_at_call 64; refine (inRange_yes _ _ _ _ (by omega)).mono ?_; rintro e w' ⟨rfl, rfl⟩))
          go_ret2
          exact ⟨ret2_int hr.out, rfl⟩
    · have hr := Lib.hid (show rNumberAt xs at_ wd = (0, 2) by
        unfold rNumberAt; rw [if_neg (by simp [hb]), if_pos (by omega)])
      go_enter Try.func47, Try.ntmps47
      go_wp2_with (first | (go_at_call 58; refine (implIsBits_any _ _ _ _ _ h (by omega)).mono ?_; rintro e w' ⟨rfl, rfl⟩) | (go_at_call 64; refine (inRange_no _ _ _ _ (by omega)).mono ?_; rintro e w' ⟨rfl, rfl⟩))
      go_ret2
      exact ⟨ret2_int hr.out, rfl⟩
end Go.Proofs.Ytagdkaigdehohaa
