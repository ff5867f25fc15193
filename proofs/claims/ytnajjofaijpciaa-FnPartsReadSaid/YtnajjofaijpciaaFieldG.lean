/-
  Contracts of the two tests of a field, and of the two sizes.
  Conditions: none.
-/
import Derived.Test.YtnajjofaijpciaaFieldD
import Derived.Test.YtnajjofaijpciaaMg10
set_option linter.unusedVariables false
namespace Go.Proofs.Ytnajjofaijpciaa
open Go.RowKit Go.G8
theorem run_one {p : Int} (hp : 3 ≤ p) : runP p 1 = false := by
  refine okT_bad (n := 1) (by omega) (.inr ⟨by omega, ?_⟩)
  show tP p 1 1 = 1
  exact tP_one (by omega)
theorem least_end {p y : Int} (h : 1 ≤ y ∧ y < p) (hp : 3 ≤ p) (hn : noRun p y.toNat = true) : leastB p y = runP p y := by
  unfold leastB
  by_cases e : y = 1
  · subst e; rw [run_one hp]; simp
  · rw [decide_eq_true (by omega), hn]; simp
theorem least_bad {p y : Int} {k : Nat} (hp : 3 ≤ p) (h1 : 1 ≤ k) (hky : (k : Int) < y) (hk : runP p k = true) : leastB p y = false := by
  have h2 : 2 ≤ k := by
    rcases Nat.lt_or_ge k 2 with h | h
    · obtain rfl : k = 1 := by omega
      rw [show ((1 : Nat) : Int) = 1 from rfl, run_one hp] at hk; cases hk
    · exact h
  unfold leastB
  rw [noRun_bad h2 hk (show k < y.toNat by omega)]
  simp
theorem least_out {p y : Int} (h : ¬ (1 ≤ y ∧ y ≤ p - 1)) : leastB p y = false := by
  unfold leastB
  rw [decide_eq_false (by omega)]
  rfl
theorem noRun_one (p : Int) : noRun p 1 = true := by simp [noRun]
set_option maxHeartbeats 1000000 in
theorem isField_prime (p y : Int) (w : World) (h : 3 ≤ p ∧ p ≤ 1021) (hp : primeB p = true) :
    Calls Try.prog 70 #[.agg #[.int .i64 p, .int .i64 1, .int .i64 y]] w (RetB (.bool (fieldB p 1 y)) w) := by
  have HF := Lib.hid (fieldB_prime (y := y) h hp)
  have H0 := Lib.hid h
  obtain ⟨h1, h2⟩ := h
  by_cases hy : 1 ≤ y ∧ y ≤ p - 1
  · go_enter Try.func70, Try.ntmps70
    go_wp2_with (go_at_call 30; refine (l01In_yes p 3 1021 _ ⟨h1, h2⟩).mono ?_; rintro e w' ⟨rfl, rfl⟩)
    go_wp2_with (go_at_call 87; refine (l02Prime_spec p _ ⟨h1, h2⟩).mono ?_; rw [hp]; rintro e w' ⟨rfl, rfl⟩)
    go_wp2_with (go_at_call 30; refine (l01In_yes y 1 (p - 1) _ hy).mono ?_; rintro e w' ⟨rfl, rfl⟩)
    obtain ⟨hy1, hy2⟩ := hy
    go_loopw [3] (fun g wr => ∃ k : Nat, 1 ≤ k ∧ (k : Int) ≤ y ∧ g = .int .i64 k ∧ Hid (noRun p k = true) ∧ Below w.heap.size w wr ∧ wr.cell? ⟨w.heap.size, 0, none⟩ = some (.int .i64 p) ∧ wr.cell? ⟨w.heap.size, 1, none⟩ = some (.int .i64 1) ∧ wr.cell? ⟨w.heap.size, 2, none⟩ = some (.int .i64 y) ∧ w.heap.size < wr.heap.size) (fun g _ => 1022 - (intOf g).toNat)
    case atStart =>
      refine ⟨1, by omega, by omega, by go_num, noRun_one p, Below.alloc (Below.refl _ _) (Nat.le_refl _) _, ?_, ?_, ?_, by simp⟩ <;> rw [cell_of_row _ _ _ _ _ (0, 0) (heap_alloc_new w _)] <;> rfl
    case round =>
      obtain ⟨k, hk1, hky, rfl, hnr, hbw, hc0, hc1, hc2, hlt⟩ := hrel
      by_cases hkp : (k : Int) < y
      · cases hrun : runP p k with
        | true =>
          have hr := Lib.hid (least_bad h1 hk1 hkp hrun)
          have HR := Lib.hid hrun
          go_wp2_with (go_at_call 88; refine (runs_p p y k _ H0.out (by omega)).mono ?_; rw [HR.out]; rintro e w1 ⟨rfl, hb1⟩)
          go_ret
          exact ⟨ret_bool (by rw [HF.out, hr.out]), bt hbw hb1⟩
        | false =>
          have hns := Lib.hid (noRun_succ hnr.out hrun)
          have HR := Lib.hid hrun
          go_wp2_with (go_at_call 88; refine (runs_p p y k _ H0.out (by omega)).mono ?_; rw [HR.out]; rintro e w1 ⟨rfl, hb1⟩)
          obtain ⟨hcc, hff⟩ := bcell hb1
          have hsz := hb1.size
          exact ⟨⟨k + 1, by omega, by omega, by go_num, hns, bt hbw hb1, (hcc w.heap.size 0 hlt).trans hc0, (hcc w.heap.size 1 hlt).trans hc1, (hcc w.heap.size 2 hlt).trans hc2, by omega⟩, by simp [intOf]; omega⟩
      · obtain rfl : y = (k : Int) := by omega
        have hr := Lib.hid (least_end (p := p) (y := (k : Int)) (by omega) h1 (by simpa using hnr.out))
        clear hkp
        go_wp2_with (go_at_call 88; refine (runs_p p k k _ H0.out (by omega)).mono ?_; rintro e w1 ⟨rfl, hb1⟩)
        go_ret
        exact ⟨ret_bool (by rw [HF.out, hr.out]), bt hbw hb1⟩
  · have hr := Lib.hid (least_out hy)
    go_enter Try.func70, Try.ntmps70
    go_wp2_with (go_at_call 30; refine (l01In_yes p 3 1021 _ ⟨h1, h2⟩).mono ?_; rintro e w' ⟨rfl, rfl⟩)
    go_wp2_with (go_at_call 87; refine (l02Prime_spec p _ ⟨h1, h2⟩).mono ?_; rw [hp]; rintro e w' ⟨rfl, rfl⟩)
    go_wp2_with (go_at_call 30; refine (l01In_no y 1 (p - 1) _ hy).mono ?_; rintro e w' ⟨rfl, rfl⟩)
    go_ret
    exact ⟨ret_bool (by rw [HF.out, hr.out]), Below.alloc (Below.refl _ _) (Nat.le_refl _) _⟩
theorem isField_nop (p y : Int) (w : World) (h : 3 ≤ p ∧ p ≤ 1021) (hp : primeB p = false) :
    Calls Try.prog 70 #[.agg #[.int .i64 p, .int .i64 1, .int .i64 y]] w (RetB (.bool (fieldB p 1 y)) w) := by
  have HF := Lib.hid (fieldB_nop (y := y) h hp)
  obtain ⟨h1, h2⟩ := h
  go_enter Try.func70, Try.ntmps70
  go_wp2_with (go_at_call 30; refine (l01In_yes p 3 1021 _ ⟨h1, h2⟩).mono ?_; rintro e w' ⟨rfl, rfl⟩)
  go_wp2_with (go_at_call 87; refine (l02Prime_spec p _ ⟨h1, h2⟩).mono ?_; rw [hp]; rintro e w' ⟨rfl, rfl⟩)
  go_ret
  exact ⟨ret_bool (by rw [HF.out]), Below.alloc (Below.refl _ _) (Nat.le_refl _) _⟩
theorem isField_nor (p y : Int) (w : World) (h : ¬ (3 ≤ p ∧ p ≤ 1021)) :
    Calls Try.prog 70 #[.agg #[.int .i64 p, .int .i64 1, .int .i64 y]] w (RetB (.bool (fieldB p 1 y)) w) := by
  have HF := Lib.hid (fieldB_nor (y := y) h)
  go_enter Try.func70, Try.ntmps70
  go_wp2_with (go_at_call 30; refine (l01In_no p 3 1021 _ h).mono ?_; rintro e w' ⟨rfl, rfl⟩)
  go_ret
  exact ⟨ret_bool (by rw [HF.out]), Below.alloc (Below.refl _ _) (Nat.le_refl _) _⟩
theorem isField_no (p q y : Int) (w : World) (hq : ¬ q = 1) (h : ¬ (p = 2 ∧ 3 ≤ q ∧ q ≤ 8)) :
    Calls Try.prog 70 #[.agg #[.int .i64 p, .int .i64 q, .int .i64 y]] w (RetB (.bool (fieldB p q y)) w) := by
  have HF := Lib.hid (fieldB_no2 (y := y) hq h)
  have hqb : (q == 1) = false := by rw [beq_eq_false_iff_ne]; exact hq
  by_cases h2 : p = 2
  · subst h2
    have hin : ¬ (3 ≤ q ∧ q ≤ 8) := fun c => h ⟨rfl, c⟩
    clear h hq
    go_enter Try.func70, Try.ntmps70
    go_wp2_with (go_at_call 30; refine (l01In_no q 3 8 _ hin).mono ?_; rintro e w' ⟨rfl, rfl⟩)
    go_ret
    exact ⟨ret_bool (by rw [HF.out]), Below.alloc (Below.refl _ _) (Nat.le_refl _) _⟩
  · have hpb : (p != 2) = true := by rw [bne_iff_ne]; exact h2
    clear h hq h2
    go_enter Try.func70, Try.ntmps70
    go_wp2
    go_ret
    exact ⟨ret_bool (by rw [HF.out]), Below.alloc (Below.refl _ _) (Nat.le_refl _) _⟩
end Go.Proofs.Ytnajjofaijpciaa
