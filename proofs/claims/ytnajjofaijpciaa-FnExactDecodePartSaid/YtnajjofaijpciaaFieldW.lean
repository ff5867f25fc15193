/-
  Contracts: the width of a field, by the reference and by the program.
  Conditions: none.
-/
import Derived.Test.YtnajjofaijpciaaFieldH
set_option linter.unusedVariables false
namespace Go.Proofs.Ytnajjofaijpciaa
open Go.RowKit Go.G8
def wF (s : Int) : Nat → Nat → Nat
  | 0, k => k
  | n + 1, k => if 2 * 2 ^ k ≤ s then wF s n (k + 1) else k
def wOf (s : Int) : Nat := wF s 10 0
theorem wF_yes {s : Int} {n k : Nat} (h : 2 * 2 ^ k ≤ s) : wF s (n + 1) k = wF s n (k + 1) := by simp only [wF]; rw [if_pos h]
theorem wF_no {s : Int} {n k : Nat} (h : ¬ 2 * 2 ^ k ≤ s) : wF s n k = k := by
  cases n with
  | zero => rfl
  | succ n => simp only [wF]; rw [if_neg h]
theorem two_shl {k : Nat} (hk : k ≤ 10) : wrap64 (2 * 2 ^ k) = 2 * 2 ^ k ∧ 0 < (2 : Int) * 2 ^ k ∧ (2 : Int) * 2 ^ k ≤ 2048 := by
  have : k = 0 ∨ k = 1 ∨ k = 2 ∨ k = 3 ∨ k = 4 ∨ k = 5 ∨ k = 6 ∨ k = 7 ∨ k = 8 ∨ k = 9 ∨ k = 10 := by omega
  rcases this with rfl | rfl | rfl | rfl | rfl | rfl | rfl | rfl | rfl | rfl | rfl <;> exact ⟨by unfold wrap64; omega, by omega, by omega⟩
theorem shl_small {k : Nat} {s : Int} (hk : k ≤ 10) (h : (2 : Int) * 2 ^ k ≤ s) (hs : s ≤ 1021) : k < 9 := by
  rcases Nat.lt_or_ge k 9 with h1 | h1
  · exact h1
  · have : k = 9 ∨ k = 10 := by omega
    rcases this with rfl | rfl <;> exfalso <;> omega
def widthR (p q y : Int) : Int := if fieldB p q y then wOf (fsize p q) else 0
theorem widthR_yes {p q y : Int} (h : fieldB p q y = true) : widthR p q y = wOf (fsize p q) := by unfold widthR; rw [if_pos h]
theorem widthR_no {p q y : Int} (h : fieldB p q y = false) : widthR p q y = 0 := by unfold widthR; rw [if_neg (by rw [h]; simp)]
theorem l11Width_any (p q y : Int) (w : World) (h : fieldB p q y = true) : Calls Try.prog 61 #[.agg #[.int .i64 p, .int .i64 q, .int .i64 y]] w (RetB (.int .i64 (wOf (fsize p q))) w) := by
  have HL := Lib.hid (fun w => l02Size_any w h)
  obtain ⟨hs1, hs2⟩ := fsize_bd h
  obtain ⟨s, hs⟩ : ∃ s, fsize p q = s := ⟨_, rfl⟩
  rw [hs] at HL hs1 hs2 ⊢
  clear hs h
  go_enter Try.func61, Try.ntmps61
  go_wp2
  go_loopw [3] (fun i wr => ∃ k : Nat, k ≤ 10 ∧ i = .int .i64 k ∧ Hid (wF s (10 - k) k = wOf s) ∧ Below w.heap.size w wr ∧ wr.cell? ⟨w.heap.size, 0, none⟩ = some (.int .i64 p) ∧ wr.cell? ⟨w.heap.size, 1, none⟩ = some (.int .i64 q) ∧ wr.cell? ⟨w.heap.size, 2, none⟩ = some (.int .i64 y) ∧ w.heap.size < wr.heap.size) (fun i _ => 11 - (intOf i).toNat)
  case atStart =>
    refine ⟨0, by omega, by go_num, rfl, Below.alloc (Below.refl _ _) (Nat.le_refl _) _, ?_, ?_, ?_, by simp⟩ <;> rw [cell_of_row _ _ _ _ _ (0, 0) (heap_alloc_new w _)] <;> rfl
  case round =>
    obtain ⟨k, hk, rfl, hw, hbw, hc0, hc1, hc2, hlt⟩ := hrel
    obtain ⟨hsh, hsh1, hsh2⟩ := two_shl hk
    by_cases hl : (2 : Int) * 2 ^ k ≤ s
    · have hk9 := shl_small hk hl hs2
      have hws : Hid (wF s (10 - (k + 1)) (k + 1) = wOf s) := by
        have := hw.out
        rw [show 10 - k = (10 - (k + 1)) + 1 by omega, wF_yes hl] at this
        exact this
      have hle : wrap64 (2 * 2 ^ k) ≤ s := by rw [hsh]; exact hl
      clear hl hsh hsh1 hsh2
      go_wp2_with fail
      refine (HL.out _).mono ?_
      rintro e w1 ⟨rfl, hb1⟩
      obtain ⟨hcc, hff⟩ := bcell hb1
      have hsz := hb1.size
      go_wp2_with fail
      exact ⟨⟨k + 1, by omega, by go_num, hws, bt hbw hb1, (hcc w.heap.size 0 hlt).trans hc0, (hcc w.heap.size 1 hlt).trans hc1, (hcc w.heap.size 2 hlt).trans hc2, by omega⟩, by simp [intOf]; omega⟩
    · have hr := Lib.hid (wF_no (n := 10 - k) hl)
      have hle : s < wrap64 (2 * 2 ^ k) := by rw [hsh]; omega
      have hled : decide (wrap64 (2 * 2 ^ k) ≤ s) = false := by rw [decide_eq_false_iff_not]; omega
      clear hl hsh hsh1 hsh2
      go_wp2_with fail
      refine (HL.out _).mono ?_
      rintro e w1 ⟨rfl, hb1⟩
      go_wp2_with fail
      go_ret
      exact ⟨ret_int (by rw [← hw.out, hr.out]), bt hbw hb1⟩
theorem calcWidth (T : TypeId) (g : Nat) (s : Int) (w : World) (hs : s ≤ 1021) (hc : w.cell? ⟨g, 1, none⟩ = some (.int .i64 s)) (hg : g < w.heap.size) : Calls Try.prog 65 #[.pointer (some ⟨g, 0, none⟩)] w (RetB (.int .i64 (wOf s)) w) := by
  go_enter Try.func65, Try.ntmps65
  go_wp2
  go_loopw [3] (fun i wr => ∃ k : Nat, k ≤ 10 ∧ i = .int .i64 k ∧ Hid (wF s (10 - k) k = wOf s) ∧ Below w.heap.size w wr) (fun i _ => 11 - (intOf i).toNat)
  case atStart => exact ⟨0, by omega, by go_num, rfl, Below.refl _ _⟩
  case round =>
    obtain ⟨k, hk, rfl, hw, hbw⟩ := hrel
    obtain ⟨hcc, hff⟩ := bcell hbw
    have hc2 := (hcc g 1 hg).trans hc
    obtain ⟨hsh, hsh1, hsh2⟩ := two_shl hk
    by_cases hl : (2 : Int) * 2 ^ k ≤ s
    · have hk9 := shl_small hk hl hs
      have hws : Hid (wF s (10 - (k + 1)) (k + 1) = wOf s) := by
        have := hw.out
        rw [show 10 - k = (10 - (k + 1)) + 1 by omega, wF_yes hl] at this
        exact this
      have hle : wrap64 (2 * 2 ^ k) ≤ s := by rw [hsh]; exact hl
      have hled : decide (wrap64 (2 * 2 ^ k) ≤ s) = true := by rw [decide_eq_true_eq]; exact hle
      clear hl hsh hsh1 hsh2
      go_wp2
      go_quiet (fail)
      go_wp2
      exact ⟨⟨k + 1, by omega, by go_num, hws, hbw.trans (below_drewN (Below.refl _ _) _)⟩, by simp [intOf]; omega⟩
    · have hr := Lib.hid (wF_no (n := 10 - k) hl)
      have hle : s < wrap64 (2 * 2 ^ k) := by rw [hsh]; omega
      have hled : decide (wrap64 (2 * 2 ^ k) ≤ s) = false := by rw [decide_eq_false_iff_not]; omega
      clear hl hsh hsh1 hsh2
      go_wp2
      go_quiet (fail)
      go_wp2
      go_ret
      exact ⟨ret_int (by rw [← hw.out, hr.out]), hbw.trans (below_drewN (Below.refl _ _) _)⟩
end Go.Proofs.Ytnajjofaijpciaa
