/-
  Contracts of IsFormatCode and IsPart of the program and of the reference, and the laws on them.
  Conditions: none.
-/
import Derived.Test.YtpgknnaaonffcaaRange
set_option linter.unusedVariables false
namespace Go.Proofs.Ytpgknnaaonffcaa
open Go.RowKit Go.G8

theorem pow23 (k : Nat) (h : k ≤ 23) : (1 : Int) ≤ 2 ^ k ∧ (2 : Int) ^ k ≤ 8388608 := by
  have h1 : (2 : Nat) ^ k ≤ 2 ^ 23 := Nat.pow_le_pow_right (by decide) h
  have h2 : 0 < (2 : Nat) ^ k := Nat.pow_pos (by decide)
  have e : ((2 ^ k : Nat) : Int) = (2 : Int) ^ k := Int.natCast_pow 2 k
  rw [← e]
  omega
def isFC (d l p : Int) : Bool := decide (1 ≤ d ∧ d ≤ 8) && decide (d + 1 ≤ l ∧ l ≤ 24) && decide (2 ^ (l - d).toNat ≤ p ∧ p ≤ 2 * 2 ^ (l - d).toNat - 1)

set_option maxHeartbeats 400000 in
theorem specIsFormatCode_any (d l p : Int) (w : World) (hd : -9223372036854775808 ≤ d ∧ d ≤ 9223372036854775807) (hl : -9223372036854775808 ≤ l ∧ l ≤ 9223372036854775807) (hp : -9223372036854775808 ≤ p ∧ p ≤ 9223372036854775807) :
    Calls Try.prog 22 #[.agg #[.int .i64 d, .int .i64 l, .int .i64 p]] w (Ret (.bool (isFC d l p)) w) := by
  obtain ⟨hd1, hd2⟩ := hd
  obtain ⟨hl1, hl2⟩ := hl
  obtain ⟨hp1, hp2⟩ := hp
  by_cases h1 : 1 ≤ d ∧ d ≤ 8
  · by_cases h2 : d + 1 ≤ l ∧ l ≤ 24
    · obtain ⟨k, rfl⟩ : ∃ k : Nat, l = d + k := ⟨(l - d).toNat, by omega⟩
      obtain ⟨hk1, hk2⟩ := pow23 k (by omega)
      have hsub : d + (k : Int) - d = (k : Int) := by omega
      by_cases h3 : 2 ^ k ≤ p ∧ p ≤ 2 * 2 ^ k - 1
      · have hr := Lib.hid (show isFC d (d + k) p = true by
          unfold isFC; rw [decide_eq_true h1, decide_eq_true h2, show (d + (k : Int) - d).toNat = k from by rw [hsub]; rfl, decide_eq_true h3]; rfl)
        go_enter Try.func22, Try.ntmps22
        go_wp2_with (go_at_call 62; refine (l01In_yes _ _ _ _ (by omega)).mono ?_; rintro e w' ⟨rfl, rfl⟩)
        go_ret
        exact ⟨ret_bool hr.out.symm, (Below.refl _ _).alloc (Nat.le_refl _) _⟩
      · have hr := Lib.hid (show isFC d (d + k) p = false by
          unfold isFC; rw [decide_eq_true h1, decide_eq_true h2, show (d + (k : Int) - d).toNat = k from by rw [hsub]; rfl, decide_eq_false h3]; rfl)
        go_enter Try.func22, Try.ntmps22
        go_wp2_with (first | (go_at_call 62; refine (l01In_yes _ _ _ _ (by omega)).mono ?_; rintro e w' ⟨rfl, rfl⟩) | (go_at_call 62; refine (l01In_no _ _ _ _ (by omega)).mono ?_; rintro e w' ⟨rfl, rfl⟩))
        go_ret
        exact ⟨ret_bool hr.out.symm, (Below.refl _ _).alloc (Nat.le_refl _) _⟩
    · have hr := Lib.hid (show isFC d l p = false by unfold isFC; rw [decide_eq_true h1, decide_eq_false h2]; rfl)
      go_enter Try.func22, Try.ntmps22
      go_wp2_with (first | (go_at_call 62; refine (l01In_yes _ _ _ _ (by omega)).mono ?_; rintro e w' ⟨rfl, rfl⟩) | (go_at_call 62; refine (l01In_no _ _ _ _ (by omega)).mono ?_; rintro e w' ⟨rfl, rfl⟩))
      go_ret
      exact ⟨ret_bool hr.out.symm, (Below.refl _ _).alloc (Nat.le_refl _) _⟩
  · have hr := Lib.hid (show isFC d l p = false by unfold isFC; rw [decide_eq_false h1]; rfl)
    go_enter Try.func22, Try.ntmps22
    go_wp2_with (go_at_call 62; refine (l01In_no _ _ _ _ (by omega)).mono ?_; rintro e w' ⟨rfl, rfl⟩)
    go_ret
    exact ⟨ret_bool hr.out.symm, (Below.refl _ _).alloc (Nat.le_refl _) _⟩
set_option maxHeartbeats 400000 in
theorem implIsFormatCode_any (d l p : Int) (w : World) (hd : -9223372036854775808 ≤ d ∧ d ≤ 9223372036854775807) (hl : -9223372036854775808 ≤ l ∧ l ≤ 9223372036854775807) (hp : -9223372036854775808 ≤ p ∧ p ≤ 9223372036854775807) :
    Calls Try.prog 24 #[.agg #[.int .i64 d, .int .i64 l, .int .i64 p]] w (Ret (.bool (isFC d l p)) w) := by
  obtain ⟨hd1, hd2⟩ := hd
  obtain ⟨hl1, hl2⟩ := hl
  obtain ⟨hp1, hp2⟩ := hp
  by_cases h1 : 1 ≤ d ∧ d ≤ 8
  · by_cases h2 : d + 1 ≤ l ∧ l ≤ 24
    · obtain ⟨k, rfl⟩ : ∃ k : Nat, l = d + k := ⟨(l - d).toNat, by omega⟩
      obtain ⟨hk1, hk2⟩ := pow23 k (by omega)
      have hsub : d + (k : Int) - d = (k : Int) := by omega
      have hpk : (0 : Int) < 2 ^ k := by omega
      by_cases hp0 : 0 < p
      · have hq : p / 2 ^ k = 1 ↔ 2 ^ k ≤ p ∧ p ≤ 2 * 2 ^ k - 1 := by
          constructor
          · intro h
            have e := Int.emod_add_mul_ediv p (2 ^ k)
            have e1 := Int.emod_nonneg p (show (2 : Int) ^ k ≠ 0 by omega)
            have e2 := Int.emod_lt_of_pos p hpk
            rw [h] at e
            omega
          · intro h
            have e1 := Int.le_ediv_of_mul_le hpk (show 1 * 2 ^ k ≤ p by omega)
            have e2 := Int.ediv_lt_of_lt_mul hpk (show p < 2 * 2 ^ k by omega)
            omega
        by_cases h3 : 2 ^ k ≤ p ∧ p ≤ 2 * 2 ^ k - 1
        · have hr := Lib.hid (show isFC d (d + k) p = true by
            unfold isFC; rw [decide_eq_true h1, decide_eq_true h2, show (d + (k : Int) - d).toNat = k from by rw [hsub]; rfl, decide_eq_true h3]; rfl)
          have hb : (p / 2 ^ k == 1) = true := by rw [beq_iff_eq]; exact hq.2 h3
          clear hq
          go_enter Try.func24, Try.ntmps24
          go_wp2_with (go_at_call 63; refine (inRange_yes _ _ _ _ (by omega)).mono ?_; rintro e w' ⟨rfl, rfl⟩)
          go_ret
          exact ⟨ret_bool hr.out.symm, (Below.refl _ _).alloc (Nat.le_refl _) _⟩
        · have hr := Lib.hid (show isFC d (d + k) p = false by
            unfold isFC; rw [decide_eq_true h1, decide_eq_true h2, show (d + (k : Int) - d).toNat = k from by rw [hsub]; rfl, decide_eq_false h3]; rfl)
          have hb : (p / 2 ^ k == 1) = false := by rw [beq_eq_false_iff_ne]; exact fun h => h3 (hq.1 h)
          clear hq
          go_enter Try.func24, Try.ntmps24
          go_wp2_with (go_at_call 63; refine (inRange_yes _ _ _ _ (by omega)).mono ?_; rintro e w' ⟨rfl, rfl⟩)
          go_ret
          exact ⟨ret_bool hr.out.symm, (Below.refl _ _).alloc (Nat.le_refl _) _⟩
      · have hr := Lib.hid (show isFC d (d + k) p = false by
          unfold isFC; rw [decide_eq_true h1, decide_eq_true h2, show (d + (k : Int) - d).toNat = k from by rw [hsub]; rfl, decide_eq_false (by omega)]; rfl)
        have hdc : decide (0 < p) = false := by simpa using hp0
        go_enter Try.func24, Try.ntmps24
        go_wp2_with (go_at_call 63; refine (inRange_yes _ _ _ _ (by omega)).mono ?_; rintro e w' ⟨rfl, rfl⟩)
        go_ret
        exact ⟨ret_bool hr.out.symm, (Below.refl _ _).alloc (Nat.le_refl _) _⟩
    · have hr := Lib.hid (show isFC d l p = false by unfold isFC; rw [decide_eq_true h1, decide_eq_false h2]; rfl)
      go_enter Try.func24, Try.ntmps24
      go_wp2_with (first | (go_at_call 63; refine (inRange_yes _ _ _ _ (by omega)).mono ?_; rintro e w' ⟨rfl, rfl⟩) | (go_at_call 63; refine (inRange_no _ _ _ _ (by omega)).mono ?_; rintro e w' ⟨rfl, rfl⟩))
      go_ret
      exact ⟨ret_bool hr.out.symm, (Below.refl _ _).alloc (Nat.le_refl _) _⟩
  · have hr := Lib.hid (show isFC d l p = false by unfold isFC; rw [decide_eq_false h1]; rfl)
    go_enter Try.func24, Try.ntmps24
    go_wp2_with (go_at_call 63; refine (inRange_no _ _ _ _ (by omega)).mono ?_; rintro e w' ⟨rfl, rfl⟩)
    go_ret
    exact ⟨ret_bool hr.out.symm, (Below.refl _ _).alloc (Nat.le_refl _) _⟩
theorem toFormatCode_any (d l p : Int) (w : World) :
    Calls Try.prog 23 #[.agg #[.int .i64 d, .int .i64 l, .int .i64 p]] w (Ret (.agg #[.int .i64 d, .int .i64 l, .int .i64 p]) w) := by
  go_enter Try.func23, Try.ntmps23
  go_wp2
  refine bodyPost_ret (v := .agg #[.int .i64 d, .int .i64 l, .int .i64 p]) (by simp [results, Try.results23, go_sem]) rfl ⟨rfl, ?_⟩
  (repeat' (first | exact Below.refl _ _ | exact Nat.le_refl _ | omega | (refine Below.setCell ?_ ?_ _) | (refine Below.alloc ?_ ?_ _) | (refine Below.drew ?_) | (simp; done) | (simp; omega)))
set_option maxHeartbeats 400000 in
theorem law_FnExactIsFormatCode (d l p : Int) (w : World) (h0 : fits .i64 d) (h1 : fits .i64 l) (h2 : fits .i64 p) :
    Calls Try.prog 7 #[.agg #[.int .i64 d, .int .i64 l, .int .i64 p]] w (Ret (.bool true) w) := by
  go_enter Try.func7, Try.ntmps7
  go_wp2_with fail
  refine (toFormatCode_any d l p _).mono ?_
  rintro e w1 ⟨rfl, hb1⟩
  go_wp2_with fail
  refine (specIsFormatCode_any d l p _ h0 h1 h2).mono ?_
  rintro e w2 ⟨rfl, hb2⟩
  have hb := bt hb1 hb2
  obtain ⟨hc, hf⟩ := bcell hb
  go_wp2_with fail
  refine (toFormatCode_any d l p _).mono ?_
  rintro e w3 ⟨rfl, hb3⟩
  go_wp2_with fail
  refine (implIsFormatCode_any d l p _ h0 h1 h2).mono ?_
  rintro e w4 ⟨rfl, hb4⟩
  go_wp2_with fail
  go_ret
  exact ⟨rfl, ((Below.refl _ _).alloc (Nat.le_refl _) _).trans ((bt (bt hb hb3) hb4).mono (by simp))⟩
end Go.Proofs.Ytpgknnaaonffcaa
