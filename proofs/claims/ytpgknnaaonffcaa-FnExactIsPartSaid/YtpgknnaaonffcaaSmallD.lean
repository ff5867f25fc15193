/-
  Contracts of IsPart of the program and of the reference, and the law on them.
  Conditions: none.
-/
import Derived.Test.YtpgknnaaonffcaaRange
set_option linter.unusedVariables false
namespace Go.Proofs.Ytpgknnaaonffcaa
open Go.RowKit Go.G8

def isPart (i c p : Int) (s : ByteArray) : Bool := decide (1 ≤ c ∧ c ≤ 8) && decide (0 ≤ i ∧ i ≤ c - 1) && decide (0 ≤ p ∧ p ≤ 255) && decide (s.size ≤ 400)

set_option maxHeartbeats 400000 in
theorem specIsPart_any (i c p : Int) (s : ByteArray) (w : World) (hi : -9223372036854775808 ≤ i ∧ i ≤ 9223372036854775807) (hc : -9223372036854775808 ≤ c ∧ c ≤ 9223372036854775807) (hp : -9223372036854775808 ≤ p ∧ p ≤ 9223372036854775807) (hs : s.size ≤ 1000000000000) :
    Calls Try.prog 26 #[.agg #[.int .i64 i, .int .i64 c, .int .i64 p, .string s]] w (Ret (.bool (isPart i c p s)) w) := by
  obtain ⟨hi1, hi2⟩ := hi
  obtain ⟨hc1, hc2⟩ := hc
  obtain ⟨hp1, hp2⟩ := hp
  by_cases h1 : 1 ≤ c ∧ c ≤ 8
  · by_cases h2 : 0 ≤ i ∧ i ≤ c - 1
    · by_cases h3 : 0 ≤ p ∧ p ≤ 255
      · by_cases h4 : s.size ≤ 400
        · have hr := Lib.hid (show isPart i c p s = true by unfold isPart; rw [decide_eq_true h1, decide_eq_true h2, decide_eq_true h3, decide_eq_true h4]; rfl)
          have hd : decide ((s.size : Int) ≤ 400) = true := by simp; omega
          go_enter Try.func26, Try.ntmps26
          go_wp2_with (go_at_call 62; refine (l01In_yes _ _ _ _ (by omega)).mono ?_; rintro e w' ⟨rfl, rfl⟩)
          go_ret
          exact ⟨ret_bool hr.out.symm, (Below.refl _ _).alloc (Nat.le_refl _) _⟩
        · have hr := Lib.hid (show isPart i c p s = false by unfold isPart; rw [decide_eq_true h1, decide_eq_true h2, decide_eq_true h3, decide_eq_false h4]; rfl)
          have hd : decide ((s.size : Int) ≤ 400) = false := by simp; omega
          go_enter Try.func26, Try.ntmps26
          go_wp2_with (go_at_call 62; refine (l01In_yes _ _ _ _ (by omega)).mono ?_; rintro e w' ⟨rfl, rfl⟩)
          go_ret
          exact ⟨ret_bool hr.out.symm, (Below.refl _ _).alloc (Nat.le_refl _) _⟩
      · have hr := Lib.hid (show isPart i c p s = false by unfold isPart; rw [decide_eq_true h1, decide_eq_true h2, decide_eq_false h3]; rfl)
        go_enter Try.func26, Try.ntmps26
        go_wp2_with (first | (go_at_call 62; refine (l01In_yes _ _ _ _ (by omega)).mono ?_; rintro e w' ⟨rfl, rfl⟩) | (go_at_call 62; refine (l01In_no _ _ _ _ (by omega)).mono ?_; rintro e w' ⟨rfl, rfl⟩))
        go_ret
        exact ⟨ret_bool hr.out.symm, (Below.refl _ _).alloc (Nat.le_refl _) _⟩
    · have hr := Lib.hid (show isPart i c p s = false by unfold isPart; rw [decide_eq_true h1, decide_eq_false h2]; rfl)
      go_enter Try.func26, Try.ntmps26
      go_wp2_with (first | (go_at_call 62; refine (l01In_yes _ _ _ _ (by omega)).mono ?_; rintro e w' ⟨rfl, rfl⟩) | (go_at_call 62; refine (l01In_no _ _ _ _ (by omega)).mono ?_; rintro e w' ⟨rfl, rfl⟩))
      go_ret
      exact ⟨ret_bool hr.out.symm, (Below.refl _ _).alloc (Nat.le_refl _) _⟩
  · have hr := Lib.hid (show isPart i c p s = false by unfold isPart; rw [decide_eq_false h1]; rfl)
    go_enter Try.func26, Try.ntmps26
    go_wp2_with (go_at_call 62; refine (l01In_no _ _ _ _ (by omega)).mono ?_; rintro e w' ⟨rfl, rfl⟩)
    go_ret
    exact ⟨ret_bool hr.out.symm, (Below.refl _ _).alloc (Nat.le_refl _) _⟩
set_option maxHeartbeats 400000 in
theorem implIsPart_any (i c p : Int) (s : ByteArray) (w : World) (hi : -9223372036854775808 ≤ i ∧ i ≤ 9223372036854775807) (hc : -9223372036854775808 ≤ c ∧ c ≤ 9223372036854775807) (hp : -9223372036854775808 ≤ p ∧ p ≤ 9223372036854775807) (hs : s.size ≤ 1000000000000) :
    Calls Try.prog 28 #[.agg #[.int .i64 i, .int .i64 c, .int .i64 p, .string s]] w (Ret (.bool (isPart i c p s)) w) := by
  obtain ⟨hi1, hi2⟩ := hi
  obtain ⟨hc1, hc2⟩ := hc
  obtain ⟨hp1, hp2⟩ := hp
  by_cases h1 : 1 ≤ c ∧ c ≤ 8
  · by_cases h2 : 0 ≤ i ∧ i ≤ c - 1
    · by_cases h3 : 0 ≤ p ∧ p ≤ 255
      · by_cases h4 : s.size ≤ 400
        · have hr := Lib.hid (show isPart i c p s = true by unfold isPart; rw [decide_eq_true h1, decide_eq_true h2, decide_eq_true h3, decide_eq_true h4]; rfl)
          have hd : decide ((s.size : Int) ≤ 400) = true := by simp; omega
          go_enter Try.func28, Try.ntmps28
          go_wp2_with (first | (go_at_call 63; refine (inRange_yes _ _ _ _ (by omega)).mono ?_; rintro e w' ⟨rfl, rfl⟩) | (go_at_call 64; go_in))
          go_ret
          exact ⟨ret_bool hr.out.symm, (Below.refl _ _).alloc (Nat.le_refl _) _⟩
        · have hr := Lib.hid (show isPart i c p s = false by unfold isPart; rw [decide_eq_true h1, decide_eq_true h2, decide_eq_true h3, decide_eq_false h4]; rfl)
          have hd : decide ((s.size : Int) ≤ 400) = false := by simp; omega
          go_enter Try.func28, Try.ntmps28
          go_wp2_with (first | (go_at_call 63; refine (inRange_yes _ _ _ _ (by omega)).mono ?_; rintro e w' ⟨rfl, rfl⟩) | (go_at_call 64; go_in))
          go_ret
          exact ⟨ret_bool hr.out.symm, (Below.refl _ _).alloc (Nat.le_refl _) _⟩
      · have hr := Lib.hid (show isPart i c p s = false by unfold isPart; rw [decide_eq_true h1, decide_eq_true h2, decide_eq_false h3]; rfl)
        go_enter Try.func28, Try.ntmps28
        go_wp2_with (first | (go_at_call 63; refine (inRange_yes _ _ _ _ (by omega)).mono ?_; rintro e w' ⟨rfl, rfl⟩) | (go_at_call 63; refine (inRange_no _ _ _ _ (by omega)).mono ?_; rintro e w' ⟨rfl, rfl⟩))
        go_ret
        exact ⟨ret_bool hr.out.symm, (Below.refl _ _).alloc (Nat.le_refl _) _⟩
    · have hr := Lib.hid (show isPart i c p s = false by unfold isPart; rw [decide_eq_true h1, decide_eq_false h2]; rfl)
      go_enter Try.func28, Try.ntmps28
      go_wp2_with (first | (go_at_call 63; refine (inRange_yes _ _ _ _ (by omega)).mono ?_; rintro e w' ⟨rfl, rfl⟩) | (go_at_call 63; refine (inRange_no _ _ _ _ (by omega)).mono ?_; rintro e w' ⟨rfl, rfl⟩))
      go_ret
      exact ⟨ret_bool hr.out.symm, (Below.refl _ _).alloc (Nat.le_refl _) _⟩
  · have hr := Lib.hid (show isPart i c p s = false by unfold isPart; rw [decide_eq_false h1]; rfl)
    go_enter Try.func28, Try.ntmps28
    go_wp2_with (go_at_call 63; refine (inRange_no _ _ _ _ (by omega)).mono ?_; rintro e w' ⟨rfl, rfl⟩)
    go_ret
    exact ⟨ret_bool hr.out.symm, (Below.refl _ _).alloc (Nat.le_refl _) _⟩
theorem toPart_any (i c p : Int) (s : ByteArray) (w : World) :
    Calls Try.prog 27 #[.agg #[.int .i64 i, .int .i64 c, .int .i64 p, .string s]] w (Ret (.agg #[.int .i64 i, .int .i64 c, .int .i64 p, .string s]) w) := by
  go_enter Try.func27, Try.ntmps27
  go_wp2
  refine bodyPost_ret (v := .agg #[.int .i64 i, .int .i64 c, .int .i64 p, .string s]) (by simp [results, Try.results27, go_sem]) rfl ⟨rfl, ?_⟩
  (repeat' (first | exact Below.refl _ _ | exact Nat.le_refl _ | omega | (refine Below.setCell ?_ ?_ _) | (refine Below.alloc ?_ ?_ _) | (refine Below.drew ?_) | (simp; done) | (simp; omega)))
theorem szPart_yes (i c p : Int) (s : ByteArray) (left : Int) (w : World) (h : (s.size : Int) ≤ left) (hl : left ≤ 1048576) :
    Calls Try.prog 25 #[.agg #[.int .i64 i, .int .i64 c, .int .i64 p, .string s], .int .i64 left] w (Ret (.int .i64 (left - s.size)) w) := by
  go_enter Try.func25, Try.ntmps25
  go_wp2
  go_ret
  exact ⟨rfl, (Below.refl _ _).alloc (Nat.le_refl _) _⟩
theorem szPart_no (i c p : Int) (s : ByteArray) (left : Int) (w : World) (h : left < (s.size : Int)) (hl : 0 ≤ left) (hs : s.size ≤ maxLen) :
    Calls Try.prog 25 #[.agg #[.int .i64 i, .int .i64 c, .int .i64 p, .string s], .int .i64 left] w (Ret (.int .i64 (-1)) w) := by
  unfold maxLen at hs
  go_enter Try.func25, Try.ntmps25
  go_wp2
  go_ret
  exact ⟨rfl, (Below.refl _ _).alloc (Nat.le_refl _) _⟩
set_option maxHeartbeats 400000 in
theorem law_FnExactIsPart (i c p : Int) (s : ByteArray) (w : World) (h0 : fits .i64 i) (h1 : fits .i64 c) (h2 : fits .i64 p) (h3 : s.size ≤ maxLen) :
    Calls Try.prog 8 #[.agg #[.int .i64 i, .int .i64 c, .int .i64 p, .string s]] w (Ret (.bool true) w) := by
  by_cases hbig : (1048576 : Int) < s.size
  · go_enter Try.func8, Try.ntmps8
    go_wp2_with fail
    refine (szPart_no i c p s _ _ hbig (by omega) h3).mono ?_
    rintro e w1 ⟨rfl, hb1⟩
    go_wp2_with fail
    go_ret
    exact ⟨rfl, ((Below.refl _ _).alloc (Nat.le_refl _) _).trans (hb1.mono (by simp))⟩
  · go_enter Try.func8, Try.ntmps8
    go_wp2_with fail
    refine (szPart_yes i c p s _ _ (by omega) (by omega)).mono ?_
    rintro e w0 ⟨rfl, hb0⟩
    obtain ⟨hc0, hf0⟩ := bcell hb0
    go_wp2_with fail
    refine (toPart_any i c p s _).mono ?_
    rintro e w1 ⟨rfl, hb1⟩
    go_wp2_with fail
    refine (specIsPart_any i c p s _ h0 h1 h2 (by omega)).mono ?_
    rintro e w2 ⟨rfl, hb2⟩
    have hb := bt hb0 (bt hb1 hb2)
    clear hc0 hf0
    obtain ⟨hc, hf⟩ := bcell hb
    go_wp2_with fail
    refine (toPart_any i c p s _).mono ?_
    rintro e w3 ⟨rfl, hb3⟩
    go_wp2_with fail
    refine (implIsPart_any i c p s _ h0 h1 h2 (by omega)).mono ?_
    rintro e w4 ⟨rfl, hb4⟩
    go_wp2_with fail
    go_ret
    exact ⟨rfl, ((Below.refl _ _).alloc (Nat.le_refl _) _).trans ((bt (bt hb hb3) hb4).mono (by simp))⟩
end Go.Proofs.Ytpgknnaaonffcaa
