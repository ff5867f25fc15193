/-
  Contracts of IsPart of the program and of the reference, and the law on them.
  Conditions: none.
-/
import Derived.Test.YtnajjofaijpciaaMg3
set_option linter.unusedVariables false
namespace Go.Proofs.Ytnajjofaijpciaa
open Go.RowKit Go.G8

def isPart (i c p : Int) (s : ByteArray) : Bool := decide (1 ≤ c ∧ c ≤ 8) && decide (0 ≤ i ∧ i ≤ c - 1) && decide (0 ≤ p ∧ p ≤ 255) && decide (s.size ≤ 400)

set_option maxHeartbeats 400000 in
theorem specIsPart_any (i c p : Int) (s : ByteArray) (w : World) (hi : -9223372036854775808 ≤ i ∧ i ≤ 9223372036854775807) (hc : -9223372036854775808 ≤ c ∧ c ≤ 9223372036854775807) (hp : -9223372036854775808 ≤ p ∧ p ≤ 9223372036854775807) (hs : s.size ≤ 1000000000000) :
    Calls Try.prog 72 #[.agg #[.int .i64 i, .int .i64 c, .int .i64 p, .string s]] w (Ret (.bool (isPart i c p s)) w) := by
  obtain ⟨hi1, hi2⟩ := hi
  obtain ⟨hc1, hc2⟩ := hc
  obtain ⟨hp1, hp2⟩ := hp
  by_cases h1 : 1 ≤ c ∧ c ≤ 8
  · by_cases h2 : 0 ≤ i ∧ i ≤ c - 1
    · by_cases h3 : 0 ≤ p ∧ p ≤ 255
      · by_cases h4 : s.size ≤ 400
        · have hr := Lib.hid (show isPart i c p s = true by unfold isPart; rw [decide_eq_true h1, decide_eq_true h2, decide_eq_true h3, decide_eq_true h4]; rfl)
          have hd : decide ((s.size : Int) ≤ 400) = true := by simp; omega
          go_enter Try.func72, Try.ntmps72
          go_wp2_with (go_at_call 30; refine (l01In_yes _ _ _ _ (by omega)).mono ?_; rintro e w' ⟨rfl, rfl⟩)
          go_ret
          exact ⟨ret_bool hr.out.symm, (Below.refl _ _).alloc (Nat.le_refl _) _⟩
        · have hr := Lib.hid (show isPart i c p s = false by unfold isPart; rw [decide_eq_true h1, decide_eq_true h2, decide_eq_true h3, decide_eq_false h4]; rfl)
          have hd : decide ((s.size : Int) ≤ 400) = false := by simp; omega
          go_enter Try.func72, Try.ntmps72
          go_wp2_with (go_at_call 30; refine (l01In_yes _ _ _ _ (by omega)).mono ?_; rintro e w' ⟨rfl, rfl⟩)
          go_ret
          exact ⟨ret_bool hr.out.symm, (Below.refl _ _).alloc (Nat.le_refl _) _⟩
      · have hr := Lib.hid (show isPart i c p s = false by unfold isPart; rw [decide_eq_true h1, decide_eq_true h2, decide_eq_false h3]; rfl)
        go_enter Try.func72, Try.ntmps72
        go_wp2_with (first | (go_at_call 30; refine (l01In_yes _ _ _ _ (by omega)).mono ?_; rintro e w' ⟨rfl, rfl⟩) | (go_at_call 30; refine (l01In_no _ _ _ _ (by omega)).mono ?_; rintro e w' ⟨rfl, rfl⟩))
        go_ret
        exact ⟨ret_bool hr.out.symm, (Below.refl _ _).alloc (Nat.le_refl _) _⟩
    · have hr := Lib.hid (show isPart i c p s = false by unfold isPart; rw [decide_eq_true h1, decide_eq_false h2]; rfl)
      go_enter Try.func72, Try.ntmps72
      go_wp2_with (first | (go_at_call 30; refine (l01In_yes _ _ _ _ (by omega)).mono ?_; rintro e w' ⟨rfl, rfl⟩) | (go_at_call 30; refine (l01In_no _ _ _ _ (by omega)).mono ?_; rintro e w' ⟨rfl, rfl⟩))
      go_ret
      exact ⟨ret_bool hr.out.symm, (Below.refl _ _).alloc (Nat.le_refl _) _⟩
  · have hr := Lib.hid (show isPart i c p s = false by unfold isPart; rw [decide_eq_false h1]; rfl)
    go_enter Try.func72, Try.ntmps72
    go_wp2_with (go_at_call 30; refine (l01In_no _ _ _ _ (by omega)).mono ?_; rintro e w' ⟨rfl, rfl⟩)
    go_ret
    exact ⟨ret_bool hr.out.symm, (Below.refl _ _).alloc (Nat.le_refl _) _⟩
set_option maxHeartbeats 400000 in
theorem implIsPart_any (i c p : Int) (s : ByteArray) (w : World) (hi : -9223372036854775808 ≤ i ∧ i ≤ 9223372036854775807) (hc : -9223372036854775808 ≤ c ∧ c ≤ 9223372036854775807) (hp : -9223372036854775808 ≤ p ∧ p ≤ 9223372036854775807) (hs : s.size ≤ 1000000000000) :
    Calls Try.prog 28 #[.agg #[.int .i64 i, .int .i64 c, .int .i64 p, .string s]] w (Ret (.bool (isPart i c p s)) w) := by
  obtain ⟨hi1, hi2⟩ := hi
  obtain ⟨hc1, hc2⟩ := hc
  obtain ⟨hp1, hp2⟩ := hp
  by_cases h1 : 1 ≤ c ∧ c ≤ 8
  · by_cases h2 : 0 ≤ i ∧ i ≤ c - 1
    · by_cases h3 : 0 ≤ p ∧ p ≤ 255
      · by_cases h4 : s.size ≤ 400
        · have hr := Lib.hid (show isPart i c p s = true by unfold isPart; rw [decide_eq_true h1, decide_eq_true h2, decide_eq_true h3, decide_eq_true h4]; rfl)
          have hd : decide ((s.size : Int) ≤ 400) = true := by simp; omega
          go_enter Try.func28, Try.ntmps28
          go_wp2_with (first | (go_at_call 33; refine (inRange_yes _ _ _ _ (by omega)).mono ?_; rintro e w' ⟨rfl, rfl⟩) | (go_at_call 53; go_in))
          go_ret
          exact ⟨ret_bool hr.out.symm, (Below.refl _ _).alloc (Nat.le_refl _) _⟩
        · have hr := Lib.hid (show isPart i c p s = false by unfold isPart; rw [decide_eq_true h1, decide_eq_true h2, decide_eq_true h3, decide_eq_false h4]; rfl)
          have hd : decide ((s.size : Int) ≤ 400) = false := by simp; omega
          go_enter Try.func28, Try.ntmps28
          go_wp2_with (first | (go_at_call 33; refine (inRange_yes _ _ _ _ (by omega)).mono ?_; rintro e w' ⟨rfl, rfl⟩) | (go_at_call 53; go_in))
          go_ret
          exact ⟨ret_bool hr.out.symm, (Below.refl _ _).alloc (Nat.le_refl _) _⟩
      · have hr := Lib.hid (show isPart i c p s = false by unfold isPart; rw [decide_eq_true h1, decide_eq_true h2, decide_eq_false h3]; rfl)
        go_enter Try.func28, Try.ntmps28
        go_wp2_with (first | (go_at_call 33; refine (inRange_yes _ _ _ _ (by omega)).mono ?_; rintro e w' ⟨rfl, rfl⟩) | (go_at_call 33; refine (inRange_no _ _ _ _ (by omega)).mono ?_; rintro e w' ⟨rfl, rfl⟩))
        go_ret
        exact ⟨ret_bool hr.out.symm, (Below.refl _ _).alloc (Nat.le_refl _) _⟩
    · have hr := Lib.hid (show isPart i c p s = false by unfold isPart; rw [decide_eq_true h1, decide_eq_false h2]; rfl)
      go_enter Try.func28, Try.ntmps28
      go_wp2_with (first | (go_at_call 33; refine (inRange_yes _ _ _ _ (by omega)).mono ?_; rintro e w' ⟨rfl, rfl⟩) | (go_at_call 33; refine (inRange_no _ _ _ _ (by omega)).mono ?_; rintro e w' ⟨rfl, rfl⟩))
      go_ret
      exact ⟨ret_bool hr.out.symm, (Below.refl _ _).alloc (Nat.le_refl _) _⟩
  · have hr := Lib.hid (show isPart i c p s = false by unfold isPart; rw [decide_eq_false h1]; rfl)
    go_enter Try.func28, Try.ntmps28
    go_wp2_with (go_at_call 33; refine (inRange_no _ _ _ _ (by omega)).mono ?_; rintro e w' ⟨rfl, rfl⟩)
    go_ret
    exact ⟨ret_bool hr.out.symm, (Below.refl _ _).alloc (Nat.le_refl _) _⟩
end Go.Proofs.Ytnajjofaijpciaa
