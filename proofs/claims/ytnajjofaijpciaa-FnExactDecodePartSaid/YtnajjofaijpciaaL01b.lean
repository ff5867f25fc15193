/-
  Contracts of chapter 1 of the program and of the reference: numbers in bit lists.
  Conditions: named at each contract; they are bounds on lengths.
-/
import Derived.Test.YtnajjofaijpciaaL01a
set_option linter.unusedVariables false
namespace Go.Proofs.Ytnajjofaijpciaa
open Go.RowKit Go.G8

theorem l01Number_any (a : Option Addr) (n c : Nat) (xs : List Int) (at_ wd : Int) (w : World) (h : Rd .i64 w a n xs) (hb : Hid (∀ x ∈ xs, x = 0 ∨ x = 1)) (hn : n ≤ 1000000000) (h0 : 0 ≤ at_) (h1 : 0 ≤ wd) (h2 : wd ≤ 32) (h3 : at_ + wd ≤ n) :
    Calls Try.prog 42 #[.slice a n c, .int .i64 at_, .int .i64 wd] w (RetS (.int .i64 (num (bpart xs at_.toNat wd.toNat))) w) := by
  obtain ⟨i, rfl⟩ := Int.eq_ofNat_of_zero_le h0
  obtain ⟨d, rfl⟩ := Int.eq_ofNat_of_zero_le h1
  go_enter Try.func42, Try.ntmps42
  go_wp2
  go_loop [7, 8] (fun v j => ∃ k : Nat, k ≤ d ∧ j = .int .i64 k ∧ v = .int .i64 (num (bpart xs i k))) (fun _ j => d - (intOf j).toNat)
  case atStart => exact ⟨0, Nat.zero_le _, rfl, rfl⟩
  case round =>
    obtain ⟨k, hk, rfl, rfl⟩ := hrel
    obtain ⟨hb1, hb2⟩ := part_num hb.out i k (by omega)
    by_cases hlt : k < d
    · obtain ⟨b, o, x, rfl, -, hc, hx, -, -⟩ := h.at_ (k := i + k) (by omega)
      have hx01 := hb.out x (List.mem_of_getElem? hx.out)
      have hS := Lib.hid (part_snoc hx.out)
      have hx2 : 0 ≤ x ∧ x ≤ 1 := by omega
      clear hx01
      go_wp2
      go_round
      case rel => exact ⟨k + 1, by omega, by go_num, by rw [hS.out, num_snoc]⟩
      case measure => simp [intOf]; omega
    · obtain rfl : k = d := by omega
      go_wp2
      go_ret
      exact ⟨rfl, rfl⟩
theorem numberAt_any (a : Option Addr) (n c : Nat) (xs : List Int) (at_ wd : Int) (w : World) (h : Rd .i64 w a n xs) (hb : Hid (∀ x ∈ xs, x = 0 ∨ x = 1)) (hn : n ≤ 1000000000) (hc1 : n ≤ c) (hc2 : c ≤ 9223372036854775807) (h0 : 0 ≤ at_) (h1 : 0 ≤ wd) (h2 : wd ≤ 32) (h3 : at_ + wd ≤ n) :
    Calls Try.prog 44 #[.slice a n c, .int .i64 at_, .int .i64 wd] w (RetS (.int .i64 (num (bpart xs at_.toNat wd.toNat))) w) := by
  obtain ⟨i, rfl⟩ := Int.eq_ofNat_of_zero_le h0
  obtain ⟨d, rfl⟩ := Int.eq_ofNat_of_zero_le h1
  by_cases hd : d = 0
  · subst hd
    have hv := Lib.hid (show num (bpart xs i 0) = 0 by simp [bpart, num])
    go_enter Try.func44, Try.ntmps44
    go_wp2
    all_goals
      refine wp_loop_rounds 1 ?_
      rw [rounds_succ]
      go_wp2
      go_ret
      exact ⟨ret_int (by simpa using hv.out.symm), rfl⟩
  · obtain ⟨b, o, y, rfl, -, -, -, -, -⟩ := h.at_ (k := i) (by omega)
    have hci : ¬ c = i := by omega
    go_enter Try.func44, Try.ntmps44
    go_wp2
    go_loop [7, 17] (fun v j => ∃ k : Nat, k ≤ d ∧ j = .int .i64 k ∧ v = .int .i64 (num (bpart xs i k))) (fun _ j => d - (intOf j).toNat)
    case atStart => exact ⟨0, Nat.zero_le _, rfl, rfl⟩
    case round =>
      obtain ⟨k, hk, rfl, rfl⟩ := hrel
      obtain ⟨hb1, hb2⟩ := part_num hb.out i k (by omega)
      by_cases hlt : k < d
      · obtain ⟨x, hc, hx, -⟩ := h.cell (k := i + k) (by omega)
        rw [← Nat.add_assoc] at hc
        have hx01 := hb.out x (List.mem_of_getElem? hx.out)
        have hS := Lib.hid (part_snoc hx.out)
        have hor := i64_or_bit (num (bpart xs i k)) x hb1 (by omega) hx01
        clear hx01
        go_wp2
        go_round
        case rel => exact ⟨k + 1, by omega, by go_num, by rw [hS.out, num_snoc]⟩
        case measure => simp [intOf]; omega
      · obtain rfl : k = d := by omega
        go_wp2
        go_ret
        exact ⟨rfl, rfl⟩
end Go.Proofs.Ytnajjofaijpciaa
