/-
  Contracts: RowCells, by the reference and by the program.
  Conditions: none.
-/
import Derived.Test.YtagdkaigdehohaaRowC
set_option linter.unusedVariables false
namespace Go.Proofs.Ytagdkaigdehohaa
open Go.RowKit Go.G8
theorem rRowCells_long {c : Int} {vs : List Int} (h : ¬ (1 ≤ vs.length ∧ vs.length ≤ 12)) : rRowCells c vs = ([], 3) := by unfold rRowCells; rw [if_pos h]
theorem rRowCells_no {c : Int} {vs : List Int} (h0 : 1 ≤ vs.length ∧ vs.length ≤ 12) (h : valB vs = false ∨ ¬ (0 ≤ c ∧ c ≤ 2)) : rRowCells c vs = ([], 2) := by unfold rRowCells; rw [if_neg (fun e => e h0), if_pos h]
theorem rRowCells_yes {c : Int} {vs : List Int} (h0 : 1 ≤ vs.length ∧ vs.length ≤ 12) (h : valB vs = true) (hc : 0 ≤ c ∧ c ≤ 2) : rRowCells c vs = (rowL c vs, 0) := by
  unfold rRowCells
  rw [if_neg (fun e => e h0), if_neg]
  rintro (e | e)
  · rw [h] at e; cases e
  · exact e hc
set_option maxHeartbeats 1000000 in
set_option maxRecDepth 20000 in
theorem specRowCells_any (c : Int) (a : Option Addr) (n k : Nat) (vs : List Int) (w : World) (h : Rd .i64 w a n vs) (hn : n ≤ 1000000000) :
    Calls Try.prog 39 #[.int .i64 c, .slice a n k] w (RetRow2 .i64 2 (rRowCells c vs).1 (.int .i64 (rRowCells c vs).2) w) := by
  have HL := Lib.hid h.len
  by_cases hl : 1 ≤ n ∧ n ≤ 12
  · have hln := Lib.hid (show 1 ≤ vs.length ∧ vs.length ≤ 12 by rw [HL.out]; exact hl)
    obtain ⟨hl1, hl2⟩ := hl
    go_enter Try.func39, Try.ntmps39
    go_wp2_with (go_at_call 61; refine (l01In_yes _ _ _ _ (by omega)).mono ?_; rintro e w' ⟨rfl, rfl⟩)
    go_loop [6] (fun i => ∃ j : Nat, j ≤ n ∧ i = .int .i64 j ∧ Hid (∀ x ∈ vs.take j, 0 ≤ x ∧ x ≤ 31)) (fun i => n - (intOf i).toNat)
    case atStart => exact ⟨0, Nat.zero_le _, rfl, by intro x hx; simp at hx⟩
    case round =>
      obtain ⟨j, hj, rfl, hall⟩ := hrel
      by_cases hlt : j < n
      · obtain ⟨b, o, x, rfl, -, hcx, hx, hx1, hx2⟩ := h.at_ hlt
        by_cases h01 : 0 ≤ x ∧ x ≤ 31
        · have H01 := Lib.hid h01
          obtain ⟨h1, h2⟩ := h01
          go_wp2_with (go_at_call 61; refine (l01In_yes _ _ _ _ (by omega)).mono ?_; rintro e w' ⟨rfl, rfl⟩)
          go_round
          case rel => exact ⟨j + 1, by omega, by go_num, all_take hx.out hall.out H01.out⟩
          case measure => simp [intOf]; omega
        · have hr := Lib.hid (rRowCells_no (c := c) hln.out (.inl (val_bad hx.out h01)))
          go_wp2_with (go_at_call 61; refine (l01In_no _ _ _ _ (by omega)).mono ?_; rintro e w' ⟨rfl, rfl⟩)
          go_ret2
          exact retRow2_nil hr.out (Below.refl _ _)
      · obtain rfl : j = n := by omega
        rw [List.take_of_length_le (by rw [HL.out]; exact Nat.le_refl _)] at hall
        by_cases hc : 0 ≤ c ∧ c ≤ 2
        · have HC := Lib.hid (fun w => l17Cluster_yes c w hc)
          have hr := Lib.hid (rRowCells_yes hln.out (val_all hall.out) hc)
          have HR := Lib.hid (l17Row_any c a j k vs w hc h hl2 hall)
          go_wp2_with (go_at_call 75; refine (HC.out _).mono ?_; rintro e w' ⟨rfl, rfl⟩)
          refine HR.out.mono ?_
          rintro e w1 ⟨a1, n1, k1, rfl, ho1, hb1⟩
          go_wp2_with fail
          go_ret2
          exact retRow2_of hr.out ho1 hb1
        · have HC := Lib.hid (fun w => l17Cluster_no c w hc)
          have hr := Lib.hid (rRowCells_no (c := c) hln.out (.inr hc))
          go_wp2_with (go_at_call 75; refine (HC.out _).mono ?_; rintro e w' ⟨rfl, rfl⟩)
          go_ret2
          exact retRow2_nil hr.out (Below.refl _ _)
  · have hr := Lib.hid (rRowCells_long (c := c) (vs := vs) (by rw [HL.out]; exact hl))
    go_enter Try.func39, Try.ntmps39
    go_wp2_with (go_at_call 61; refine (l01In_no _ _ _ _ (by omega)).mono ?_; rintro e w' ⟨rfl, rfl⟩)
    go_ret2
    exact retRow2_nil hr.out (Below.refl _ _)
set_option maxHeartbeats 1000000 in
set_option maxRecDepth 20000 in
theorem implRowCells_any (c : Int) (a : Option Addr) (n k : Nat) (vs : List Int) (w : World) (h : Rd .i64 w a n vs) (hn : n ≤ 1000000000) :
    Calls Try.prog 40 #[.int .i64 c, .slice a n k] w (RetRow2 .i64 2 (rRowCells c vs).1 (.int .i64 (rRowCells c vs).2) w) := by
  have HL := Lib.hid h.len
  by_cases hl : 1 ≤ n ∧ n ≤ 12
  · have hln := Lib.hid (show 1 ≤ vs.length ∧ vs.length ≤ 12 by rw [HL.out]; exact hl)
    obtain ⟨hl1, hl2⟩ := hl
    by_cases hc : 0 ≤ c ∧ c ≤ 2
    · have HC := Lib.hid hc
      obtain ⟨hc1, hc2⟩ := hc
      go_enter Try.func40, Try.ntmps40
      go_wp2_with (go_at_call 64; refine (inRange_yes _ _ _ _ (by omega)).mono ?_; rintro e w' ⟨rfl, rfl⟩)
      go_loop [17] (fun i => ∃ j : Nat, j ≤ n ∧ i = .int .i64 j ∧ Hid (∀ x ∈ vs.take j, 0 ≤ x ∧ x ≤ 31)) (fun i => n - (intOf i).toNat)
      case atStart => exact ⟨0, Nat.zero_le _, rfl, by intro x hx; simp at hx⟩
      case round =>
        obtain ⟨j, hj, rfl, hall⟩ := hrel
        by_cases hlt : j < n
        · obtain ⟨b, o, x, rfl, -, hcx, hx, hx1, hx2⟩ := h.at_ hlt
          by_cases h01 : 0 ≤ x ∧ x ≤ 31
          · have H01 := Lib.hid h01
            obtain ⟨h1, h2⟩ := h01
            go_wp2_with (go_at_call 64; refine (inRange_yes _ _ _ _ (by omega)).mono ?_; rintro e w' ⟨rfl, rfl⟩)
            go_round
            case rel => exact ⟨j + 1, by omega, by go_num, all_take hx.out hall.out H01.out⟩
            case measure => simp [intOf]; omega
          · have hr := Lib.hid (rRowCells_no (c := c) hln.out (.inl (val_bad hx.out h01)))
            go_wp2_with (go_at_call 64; refine (inRange_no _ _ _ _ (by omega)).mono ?_; rintro e w' ⟨rfl, rfl⟩)
            go_ret2
            exact retRow2_nil hr.out (Below.refl _ _)
        · obtain rfl : j = n := by omega
          rw [List.take_of_length_le (by rw [HL.out]; exact Nat.le_refl _)] at hall
          have hr := Lib.hid (rRowCells_yes hln.out (val_all hall.out) HC.out)
          go_wp2_with fail
          refine (allPatterns_any _).mono ?_
          rintro e w1 ⟨a1, k1, rfl, hP, hb1⟩
          go_wp2_with fail
          refine (rowCells_any c a j k vs a1 k1 _ HC.out (h.to hb1) ⟨hl1, hl2⟩ hall hP).mono ?_
          rintro e w2 ⟨a2, n2, k2, rfl, ho2, hb2⟩
          have hB := bt hb1 hb2
          replace ho2 := ho2.more hb1.size
          go_wp2_with fail
          go_ret2
          exact retRow2_of hr.out ho2 hB
    · have hr := Lib.hid (rRowCells_no (c := c) hln.out (.inr hc))
      go_enter Try.func40, Try.ntmps40
      go_wp2_with (first | (go_at_call 64; refine (inRange_yes _ _ _ _ (by omega)).mono ?_; rintro e w' ⟨rfl, rfl⟩) | (go_at_call 64; refine (inRange_no _ _ _ _ (by omega)).mono ?_; rintro e w' ⟨rfl, rfl⟩))
      go_ret2
      exact retRow2_nil hr.out (Below.refl _ _)
  · have hr := Lib.hid (rRowCells_long (c := c) (vs := vs) (by rw [HL.out]; exact hl))
    go_enter Try.func40, Try.ntmps40
    go_wp2_with (go_at_call 64; refine (inRange_no _ _ _ _ (by omega)).mono ?_; rintro e w' ⟨rfl, rfl⟩)
    go_ret2
    exact retRow2_nil hr.out (Below.refl _ _)
end Go.Proofs.Ytagdkaigdehohaa
