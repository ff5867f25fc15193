/-
  Contracts of chapter 1 of the program and of the reference: ranges, bit lists, numbers in bit lists.
  Conditions: named at each contract; they are bounds on lengths.
-/
import Derived.Test.YtnajjofaijpciaaProg
import Derived.Test.YtnajjofaijpciaaBits
import Derived.Test.YtnajjofaijpciaaRange
import Derived.Test.YtnajjofaijpciaaLib
namespace Go.Proofs.Ytnajjofaijpciaa
open Go.RowKit Go.G8

theorem specIsBits_any (a : Option Addr) (n c : Nat) (xs : List Int) (w : World) (h : Rd .i64 w a n xs) (hn : n ≤ 1000000000) :
    Calls Try.prog 29 #[.slice a n c] w (RetS (.bool (isBits xs)) w) := by
  have HL := Lib.hid h.len
  by_cases hlong : 8192 < n
  · have hr := Lib.hid (isBits_long (xs := xs) (by rw [HL.out]; exact hlong))
    go_enter Try.func29, Try.ntmps29
    go_wp2
    go_ret
    exact ⟨ret_bool hr.out.symm, rfl⟩
  · go_enter Try.func29, Try.ntmps29
    go_wp2
    go_loop [3] (fun i => ∃ k : Nat, k ≤ n ∧ i = .int .i64 k ∧ Hid (∀ x ∈ xs.take k, x = 0 ∨ x = 1)) (fun i => n - (intOf i).toNat)
    case atStart => exact ⟨0, Nat.zero_le _, rfl, by intro x hx; simp at hx⟩
    case round =>
      obtain ⟨k, hk, rfl, hall⟩ := hrel
      by_cases hlt : k < n
      · obtain ⟨b, o, x, rfl, -, hc, hx, -, -⟩ := h.at_ hlt
        by_cases h01 : x = 0 ∨ x = 1
        · have H01 := Lib.hid h01
          have h1 : 0 ≤ x ∧ x ≤ 1 := by omega
          clear h01
          go_wp2_with (go_at_call 30; refine (l01In_yes _ _ _ _ (by omega)).mono ?_; rintro e w' ⟨rfl, rfl⟩)
          go_round
          case rel => exact ⟨k + 1, by omega, by go_num, all_take hx.out hall.out H01.out⟩
          case measure => simp [intOf]; omega
        · have hr := Lib.hid (isBits_at hx.out h01)
          have h1 : ¬ (0 ≤ x ∧ x ≤ 1) := by omega
          clear h01
          go_wp2_with (go_at_call 30; refine (l01In_no _ _ _ _ (by omega)).mono ?_; rintro e w' ⟨rfl, rfl⟩)
          go_ret
          exact ⟨ret_bool hr.out.symm, rfl⟩
      · obtain rfl : k = n := by omega
        go_wp2
        go_ret
        exact ⟨ret_bool (isBits_all (by rw [HL.out]; omega) (by have := hall.out; rwa [List.take_of_length_le (by rw [HL.out]; exact Nat.le_refl _)] at this)).symm, rfl⟩
theorem implIsBits_any (a : Option Addr) (n c : Nat) (xs : List Int) (w : World) (h : Rd .i64 w a n xs) (hn : n ≤ 1000000000) :
    Calls Try.prog 32 #[.slice a n c] w (RetS (.bool (isBits xs)) w) := by
  have HL := Lib.hid h.len
  by_cases hlong : 8192 < n
  · have hr := Lib.hid (isBits_long (xs := xs) (by rw [HL.out]; exact hlong))
    go_enter Try.func32, Try.ntmps32
    go_wp2
    go_ret
    exact ⟨ret_bool hr.out.symm, rfl⟩
  · go_enter Try.func32, Try.ntmps32
    go_wp2
    go_loop [10] (fun i => ∃ k : Nat, k ≤ n ∧ i = .int .i64 k ∧ Hid (∀ x ∈ xs.take k, x = 0 ∨ x = 1)) (fun i => n - (intOf i).toNat)
    case atStart => exact ⟨0, Nat.zero_le _, rfl, by intro x hx; simp at hx⟩
    case round =>
      obtain ⟨k, hk, rfl, hall⟩ := hrel
      by_cases hlt : k < n
      · obtain ⟨b, o, x, rfl, -, hc, hx, hx1, hx2⟩ := h.at_ hlt
        by_cases h01 : x = 0 ∨ x = 1
        · have H01 := Lib.hid h01
          have hb : (bits .andNot .i64 x 1 != 0) = false := by rcases h01 with rfl | rfl <;> decide
          clear h01
          go_wp2
          go_round
          case rel => exact ⟨k + 1, by omega, by go_num, all_take hx.out hall.out H01.out⟩
          case measure => simp [intOf]; omega
        · have hr := Lib.hid (isBits_at hx.out h01)
          have hb := i64_andNot1_no x ⟨hx1, hx2⟩ h01
          clear h01
          go_wp2
          go_ret
          exact ⟨ret_bool hr.out.symm, rfl⟩
      · obtain rfl : k = n := by omega
        go_wp2
        go_ret
        exact ⟨ret_bool (isBits_all (by rw [HL.out]; omega) (by have := hall.out; rwa [List.take_of_length_le (by rw [HL.out]; exact Nat.le_refl _)] at this)).symm, rfl⟩
end Go.Proofs.Ytnajjofaijpciaa
