/-
  Contract: the reference's test of a code.
  Conditions: none.
-/
import Derived.Test.YtjdnaoidlblciaaCoder
set_option linter.unusedVariables false
namespace Go.Proofs.Ytjdnaoidlblciaa
open Go.RowKit Go.G8
theorem keep5 {wr w1 : World} {h : Nat} {x0 x1 x2 x3 x4 : Value} (hb1 : Below wr.heap.size wr w1) (hlt : h < wr.heap.size) (c0 : wr.cell? ⟨h, 0, none⟩ = some x0) (c1 : wr.cell? ⟨h, 1, none⟩ = some x1) (c2 : wr.cell? ⟨h, 2, none⟩ = some x2) (c3 : wr.cell? ⟨h, 3, none⟩ = some x3) (c4 : wr.cell? ⟨h, 4, none⟩ = some x4) :
    w1.cell? ⟨h, 0, none⟩ = some x0 ∧ w1.cell? ⟨h, 1, none⟩ = some x1 ∧ w1.cell? ⟨h, 2, none⟩ = some x2 ∧ w1.cell? ⟨h, 3, none⟩ = some x3 ∧ w1.cell? ⟨h, 4, none⟩ = some x4 := by
  obtain ⟨hcc, hff⟩ := bcell hb1
  exact ⟨(hcc h 0 hlt).trans c0, (hcc h 1 hlt).trans c1, (hcc h 2 hlt).trans c2, (hcc h 3 hlt).trans c3, (hcc h 4 hlt).trans c4⟩
theorem isCode_spec (p q y l k : Int) (w : World) (hl0 : -9223372036854775808 ≤ l ∧ l ≤ 9223372036854775807) :
    Calls Try.prog 117 #[.agg #[.int .i64 p, .int .i64 q, .int .i64 y, .int .i64 l, .int .i64 k]] w (fun e w' => e = .returned (.bool (isCodeB p q y l k)) ∧ Below w.heap.size w w') := by
  cases hf : fieldB p q y with
  | false =>
    have hr := Lib.hid (isCodeB_f (l := l) (k := k) hf)
    go_enter Try.func117, Try.ntmps117
    go_wp2_with fail
    refine (isField_spec p q y _).mono ?_
    rw [hf]
    rintro e w1 ⟨rfl, hb1⟩
    go_wp2_with fail
    go_ret
    exact ⟨ret_bool (by rw [hr.out]), bt (Below.alloc (Below.refl w.heap.size w) (Nat.le_refl _) _) hb1⟩
  | true =>
    by_cases hk : 1 ≤ k ∧ k ≤ 64
    · have HL := Lib.hid (fun w => l02Size_any w hf)
      go_enter Try.func117, Try.ntmps117
      go_wp2_with fail
      refine (isField_spec p q y _).mono ?_
      rw [hf]
      rintro e w1 ⟨rfl, hb1⟩
      have hbw := bt (Below.alloc (Below.refl w.heap.size w) (Nat.le_refl _) _) hb1
      have hlt : w.heap.size < w1.heap.size := by have := hb1.size; simp at this; omega
      obtain ⟨hcc, hff⟩ := bcell hb1
      have hd0 := (hcc w.heap.size 0 (by simp)).trans (show _ = some (Value.int .i64 p) from by rw [cell_of_row _ _ _ _ _ (0, 0) (heap_alloc_new w _)]; rfl)
      have hd1 := (hcc w.heap.size 1 (by simp)).trans (show _ = some (Value.int .i64 q) from by rw [cell_of_row _ _ _ _ _ (0, 0) (heap_alloc_new w _)]; rfl)
      have hd2 := (hcc w.heap.size 2 (by simp)).trans (show _ = some (Value.int .i64 y) from by rw [cell_of_row _ _ _ _ _ (0, 0) (heap_alloc_new w _)]; rfl)
      have hd3 := (hcc w.heap.size 3 (by simp)).trans (show _ = some (Value.int .i64 l) from by rw [cell_of_row _ _ _ _ _ (0, 0) (heap_alloc_new w _)]; rfl)
      have hd4 := (hcc w.heap.size 4 (by simp)).trans (show _ = some (Value.int .i64 k) from by rw [cell_of_row _ _ _ _ _ (0, 0) (heap_alloc_new w _)]; rfl)
      clear hcc hff hb1
      go_wp2_with fail
      refine (l01In_yes k 1 64 _ hk).mono ?_
      rintro e w' ⟨rfl, rfl⟩
      go_wp2_with fail
      have hwk : IntKind.i64.wrap (k + 1) = k + 1 := IntWalk.i64_in _ (by omega)
      by_cases hl : k + 1 ≤ l ∧ l ≤ 255
      · obtain ⟨s, hs⟩ : ∃ s, fsize p q = s := ⟨_, rfl⟩
        have hr := Lib.hid (show isCodeB p q y l k = decide (l < s) by unfold isCodeB; rw [decide_eq_true hk, decide_eq_true hl, hf, hs]; rfl)
        rw [hs] at HL
        clear hs hf
        go_region_held3 (fun w' => w'.cell? ⟨w.heap.size, 0, none⟩ = some (.int .i64 p) ∧ w'.cell? ⟨w.heap.size, 1, none⟩ = some (.int .i64 q) ∧ w'.cell? ⟨w.heap.size, 2, none⟩ = some (.int .i64 y) ∧ w'.cell? ⟨w.heap.size, 3, none⟩ = some (.int .i64 l) ∧ w'.cell? ⟨w.heap.size, 4, none⟩ = some (.int .i64 k))
          (first | go_keep | exact keep5 hb2 hlt hd0 hd1 hd2 hd3 hd4)
          (first | (go_at_call 61; refine (l01In_yes l (k + 1) 255 _ hl).mono ?_; rintro e w' ⟨rfl, rfl⟩) | (go_at_call 72; refine (HL.out _).mono ?_; rintro e w2 ⟨rfl, hb2⟩))
        have hb3 := ((Below.refl w1.heap.size w1).drew).trans hb2
        go_wp2
        go_ret
        exact ⟨ret_bool hr.out.symm, bt hbw hb3⟩
      · have hr := Lib.hid (isCodeB_l (p := p) (q := q) (y := y) hl)
        clear hf
        go_quiet (first | (go_at_call 61; refine (l01In_no l (k + 1) 255 _ hl).mono ?_; rintro e w' ⟨rfl, rfl⟩; exact ⟨rfl, _, rfl⟩))
        go_wp2
        go_ret
        exact ⟨ret_bool hr.out.symm, below_drewN hbw _⟩
    · have hr := Lib.hid (isCodeB_k (p := p) (q := q) (y := y) (l := l) hk)
      go_enter Try.func117, Try.ntmps117
      go_wp2_with fail
      refine (isField_spec p q y _).mono ?_
      rw [hf]
      rintro e w1 ⟨rfl, hb1⟩
      have hbw := bt (Below.alloc (Below.refl w.heap.size w) (Nat.le_refl _) _) hb1
      obtain ⟨hcc, hff⟩ := bcell hb1
      have hd4 := (hcc w.heap.size 4 (by simp)).trans (show _ = some (Value.int .i64 k) from by rw [cell_of_row _ _ _ _ _ (0, 0) (heap_alloc_new w _)]; rfl)
      go_wp2_with fail
      refine (l01In_no k 1 64 _ hk).mono ?_
      rintro e w' ⟨rfl, rfl⟩
      go_wp2_with fail
      go_ret
      exact ⟨ret_bool (by rw [hr.out]), hbw⟩
end Go.Proofs.Ytjdnaoidlblciaa
