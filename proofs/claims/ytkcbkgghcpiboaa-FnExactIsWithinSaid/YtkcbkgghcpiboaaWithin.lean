/-
  Contracts: whether numbers of errors and erasures are within a code, by the reference and by the program.
  Conditions: none.
-/
import Derived.Test.YtkcbkgghcpiboaaCoderS
set_option linter.unusedVariables false
namespace Go.Proofs.Ytkcbkgghcpiboaa
open Go.RowKit Go.G8
def withinB (p q y l k a b : Int) : Bool := isCodeB p q y l k && (decide (0 ≤ a ∧ a ≤ k) && (decide (0 ≤ b ∧ b ≤ k) && decide (2 * a + b ≤ k)))
theorem within_no {p q y l k a b : Int} (h : isCodeB p q y l k = false) : withinB p q y l k a b = false := by unfold withinB; rw [h]; rfl
theorem within_a {p q y l k a b : Int} (h : ¬ (0 ≤ a ∧ a ≤ k)) : withinB p q y l k a b = false := by unfold withinB; rw [decide_eq_false h]; simp
theorem within_b {p q y l k a b : Int} (h : ¬ (0 ≤ b ∧ b ≤ k)) : withinB p q y l k a b = false := by unfold withinB; rw [decide_eq_false h]; simp
theorem within_ok {p q y l k a b : Int} (h : isCodeB p q y l k = true) (h1 : 0 ≤ a ∧ a ≤ k) (h2 : 0 ≤ b ∧ b ≤ k) : withinB p q y l k a b = decide (2 * a + b ≤ k) := by unfold withinB; rw [h, decide_eq_true h1, decide_eq_true h2]; rfl
theorem isCodeB_bd {p q y l k : Int} (h : isCodeB p q y l k = true) : (1 ≤ k ∧ k ≤ 64) ∧ (k + 1 ≤ l ∧ l ≤ 255) ∧ fieldB p q y = true ∧ l < fsize p q := by
  unfold isCodeB at h
  simp only [Bool.and_eq_true, decide_eq_true_eq] at h
  exact ⟨h.1, h.2.1, h.2.2.1, h.2.2.2⟩
set_option maxHeartbeats 1000000 in
theorem isWithin_spec (p q y l k a b : Int) (w : World) (hl0 : -9223372036854775808 ≤ l ∧ l ≤ 9223372036854775807) :
    Calls Try.prog 25 #[.agg #[.int .i64 p, .int .i64 q, .int .i64 y, .int .i64 l, .int .i64 k], .int .i64 a, .int .i64 b] w (fun e w' => e = .returned (.bool (withinB p q y l k a b)) ∧ Below w.heap.size w w') := by
  cases hc : isCodeB p q y l k with
  | false =>
    have hr := Lib.hid (within_no (a := a) (b := b) hc)
    go_enter Try.func25, Try.ntmps25
    go_wp2_with fail
    refine (isCode_spec p q y l k _ hl0).mono ?_
    rw [hc]
    rintro e w1 ⟨rfl, hb1⟩
    have hbw := bt (Below.alloc (Below.refl w.heap.size w) (Nat.le_refl _) _) hb1
    go_wp2_with fail
    go_ret
    exact ⟨ret_bool hr.out.symm, hbw⟩
  | true =>
    have hbd := isCodeB_bd hc
    have hk := hbd.1
    clear hbd
    go_enter Try.func25, Try.ntmps25
    go_wp2_with fail
    refine (isCode_spec p q y l k _ hl0).mono ?_
    have HC := Lib.hid hc
    rw [hc]
    clear hc
    rintro e w1 ⟨rfl, hb1⟩
    have hbw := bt (Below.alloc (Below.refl w.heap.size w) (Nat.le_refl _) _) hb1
    obtain ⟨hcc, hff⟩ := bcell hb1
    have hd4 := (hcc w.heap.size 4 (by simp)).trans (show _ = some (Value.int .i64 k) from by rw [cell_of_row _ _ _ _ _ (0, 0) (heap_alloc_new w _)]; rfl)
    clear hcc hff hb1
    go_wp2_with fail
    by_cases ha : 0 ≤ a ∧ a ≤ k
    · refine (l01In_yes a 0 k _ ha).mono ?_
      rintro e w' ⟨rfl, rfl⟩
      go_wp2_with fail
      by_cases hb : 0 ≤ b ∧ b ≤ k
      · have hr := Lib.hid (within_ok HC.out ha hb)
        refine (l01In_yes b 0 k _ hb).mono ?_
        rintro e w' ⟨rfl, rfl⟩
        have e1 : IntKind.i64.wrap (2 * a) = 2 * a := IntWalk.i64_in _ (by omega)
        have e2 : IntKind.i64.wrap (2 * a + b) = 2 * a + b := IntWalk.i64_in _ (by omega)
        go_wp2_with fail
        go_ret
        exact ⟨ret_bool hr.out.symm, hbw⟩
      · have hr := Lib.hid (within_b (p := p) (q := q) (y := y) (l := l) (a := a) hb)
        refine (l01In_no b 0 k _ hb).mono ?_
        rintro e w' ⟨rfl, rfl⟩
        go_wp2_with fail
        go_ret
        exact ⟨ret_bool hr.out.symm, hbw⟩
    · have hr := Lib.hid (within_a (p := p) (q := q) (y := y) (l := l) (b := b) ha)
      refine (l01In_no a 0 k _ ha).mono ?_
      rintro e w' ⟨rfl, rfl⟩
      go_wp2_with fail
      go_ret
      exact ⟨ret_bool hr.out.symm, hbw⟩
set_option maxHeartbeats 1000000 in
theorem isWithin_impl (p q y l k a b : Int) (w : World) :
    Calls Try.prog 26 #[.agg #[.int .i64 p, .int .i64 q, .int .i64 y, .int .i64 l, .int .i64 k], .int .i64 a, .int .i64 b] w (fun e w' => e = .returned (.bool (withinB p q y l k a b)) ∧ Below w.heap.size w w') := by
  cases hc : isCodeB p q y l k with
  | false =>
    have hr := Lib.hid (within_no (a := a) (b := b) hc)
    go_enter Try.func26, Try.ntmps26
    go_wp2_with fail
    refine (coder_any p q y l k _).mono ?_
    unfold CoderRes
    rw [hc]
    rintro e w1 ⟨o, rfl, hb1, -⟩
    have hbw := bt (Below.alloc (Below.refl w.heap.size w) (Nat.le_refl _) _) hb1
    go_wp2_with fail
    go_ret
    exact ⟨ret_bool hr.out.symm, hbw⟩
  | true =>
    have hbd := isCodeB_bd hc
    have hk := hbd.1
    clear hbd
    go_enter Try.func26, Try.ntmps26
    go_wp2_with fail
    refine (coder_any p q y l k _).mono ?_
    unfold CoderRes
    have HC := Lib.hid hc
    rw [hc]
    clear hc
    rintro e w1 ⟨o, rfl, hb1, hD⟩
    obtain ⟨D, G, rfl, hD1, hc0, hc1, hc2, htab⟩ := hD rfl
    have hbw := bt (Below.alloc (Below.refl w.heap.size w) (Nat.le_refl _) _) hb1
    clear hb1 htab hD
    go_wp2_with fail
    by_cases ha : 0 ≤ a ∧ a ≤ k
    · refine (inRange_yes a 0 k _ ha).mono ?_
      rintro e w' ⟨rfl, rfl⟩
      go_wp2_with fail
      by_cases hb : 0 ≤ b ∧ b ≤ k
      · have hr := Lib.hid (within_ok HC.out ha hb)
        refine (inRange_yes b 0 k _ hb).mono ?_
        rintro e w' ⟨rfl, rfl⟩
        have e1 : IntKind.i64.wrap (2 * a) = 2 * a := IntWalk.i64_in _ (by omega)
        have e2 : IntKind.i64.wrap (2 * a + b) = 2 * a + b := IntWalk.i64_in _ (by omega)
        go_wp2_with fail
        go_ret
        exact ⟨ret_bool hr.out.symm, hbw⟩
      · have hr := Lib.hid (within_b (p := p) (q := q) (y := y) (l := l) (a := a) hb)
        refine (inRange_no b 0 k _ hb).mono ?_
        rintro e w' ⟨rfl, rfl⟩
        go_wp2_with fail
        go_ret
        exact ⟨ret_bool hr.out.symm, hbw⟩
    · have hr := Lib.hid (within_a (p := p) (q := q) (y := y) (l := l) (b := b) ha)
      refine (inRange_no a 0 k _ ha).mono ?_
      rintro e w' ⟨rfl, rfl⟩
      go_wp2_with fail
      go_ret
      exact ⟨ret_bool hr.out.symm, hbw⟩
end Go.Proofs.Ytkcbkgghcpiboaa
