/-
  Contract: the program's coder of a code.
  Conditions: none.
-/
import Derived.Test.YtjdnaoidlblciaaFieldT
set_option linter.unusedVariables false
namespace Go.Proofs.Ytjdnaoidlblciaa
open Go.RowKit Go.G8
def isCodeB (p q y l k : Int) : Bool := decide (1 ≤ k ∧ k ≤ 64) && (decide (k + 1 ≤ l ∧ l ≤ 255) && (fieldB p q y && decide (l < fsize p q)))
theorem isCodeB_k {p q y l k : Int} (h : ¬ (1 ≤ k ∧ k ≤ 64)) : isCodeB p q y l k = false := by unfold isCodeB; rw [decide_eq_false h]; rfl
theorem isCodeB_l {p q y l k : Int} (h : ¬ (k + 1 ≤ l ∧ l ≤ 255)) : isCodeB p q y l k = false := by unfold isCodeB; rw [decide_eq_false h]; simp
theorem isCodeB_f {p q y l k : Int} (h : fieldB p q y = false) : isCodeB p q y l k = false := by unfold isCodeB; rw [h]; simp
theorem isCodeB_s {p q y l k : Int} (h : ¬ l < fsize p q) : isCodeB p q y l k = false := by unfold isCodeB; rw [decide_eq_false h]; simp
theorem isCodeB_yes {p q y l k : Int} (h1 : 1 ≤ k ∧ k ≤ 64) (h2 : k + 1 ≤ l ∧ l ≤ 255) (h3 : fieldB p q y = true) (h4 : l < fsize p q) : isCodeB p q y l k = true := by unfold isCodeB; rw [decide_eq_true h1, decide_eq_true h2, h3, decide_eq_true h4]; rfl
def CoderRes (T : TypeId) (p q y l k : Int) (w : World) (e : Ending) (w' : World) : Prop :=
  ∃ o : Option Addr, e = .returned (.tuple #[.pointer o, .bool (isCodeB p q y l k)]) ∧ Below w.heap.size w w' ∧
    (isCodeB p q y l k = true → ∃ D G, o = some ⟨D, 0, none⟩ ∧ w.heap.size ≤ D ∧ w'.cell? ⟨D, 0, none⟩ = some (.pointer (some ⟨G, 0, none⟩)) ∧ w'.cell? ⟨D, 1, none⟩ = some (.int .i64 l) ∧ w'.cell? ⟨D, 2, none⟩ = some (.int .i64 k) ∧
      Tab T w' G (!decide (q = 1)) (fsize p q) (expT (tF p q y) (fN p q)) (logT (tF p q y) (fN p q)))
theorem coder_any (p q y l k : Int) (w : World) :
    Calls Try.prog 119 #[.agg #[.int .i64 p, .int .i64 q, .int .i64 y, .int .i64 l, .int .i64 k]] w (CoderRes 87 p q y l k w) := by
  by_cases hk : 1 ≤ k ∧ k ≤ 64
  · by_cases hl : k + 1 ≤ l ∧ l ≤ 255
    · cases hf : fieldB p q y with
      | false =>
        have hr := Lib.hid (isCodeB_f (l := l) (k := k) hf)
        go_enter Try.func119, Try.ntmps119
        go_wp2_with fail
        refine (inRange_yes k 1 64 _ hk).mono ?_
        rintro e w' ⟨rfl, rfl⟩
        go_wp2_with fail
        refine (inRange_yes l (k + 1) 255 _ hl).mono ?_
        rintro e w' ⟨rfl, rfl⟩
        go_wp2_with fail
        refine (calc_spec p q y _).mono ?_
        unfold CalcRes
        rw [hf]
        rintro e w1 ⟨o, rfl, hb1, -⟩
        go_wp2_with fail
        go_quiet (fail)
        go_wp2_with fail
        go_ret2
        exact ⟨none, by rw [hr.out]; rfl, bt (Below.alloc (Below.refl w.heap.size w) (Nat.le_refl _) _) (below_drewN hb1 _), fun h => by rw [hr.out] at h; cases h⟩
      | true =>
        have hbd := fsize_bd hf
        by_cases hs : l < fsize p q
        · have hr := Lib.hid (isCodeB_yes hk hl hf hs)
          have hge : decide (fsize p q ≤ l) = false := by rw [decide_eq_false_iff_not]; omega
          go_enter Try.func119, Try.ntmps119
          go_wp2_with fail
          refine (inRange_yes k 1 64 _ hk).mono ?_
          rintro e w' ⟨rfl, rfl⟩
          go_wp2_with fail
          refine (inRange_yes l (k + 1) 255 _ hl).mono ?_
          rintro e w' ⟨rfl, rfl⟩
          go_wp2_with fail
          refine (calc_spec p q y _).mono ?_
          unfold CalcRes
          rw [hf]
          rintro e w1 ⟨o, rfl, hb1, hrr⟩
          obtain ⟨G, rfl, hG, htab⟩ := hrr rfl
          have hsz := htab.size_
          have hbw := bt (Below.alloc (Below.refl w.heap.size w) (Nat.le_refl _) _) hb1
          obtain ⟨hcc, hff⟩ := bcell hb1
          have hd3 := (hcc w.heap.size 3 (by simp)).trans (show _ = some (Value.int .i64 l) from by rw [cell_of_row _ _ _ _ _ (0, 0) (heap_alloc_new w _)]; rfl)
          have hd4 := (hcc w.heap.size 4 (by simp)).trans (show _ = some (Value.int .i64 k) from by rw [cell_of_row _ _ _ _ _ (0, 0) (heap_alloc_new w _)]; rfl)
          clear hcc hff
          go_wp2_with fail
          go_quiet (fail)
          go_wp2_with fail
          go_ret2
          have htab2 := htab.to (below_drewN (Below.refl _ w1) nq)
          have hw := hbw.size
          refine ⟨some ⟨w1.heap.size, 0, none⟩, by rw [hr.out]; rfl, Below.alloc (below_drewN hbw _) (show w.heap.size ≤ w1.heap.size from hw) _, fun _ => ⟨w1.heap.size, G, rfl, hw, ?_, ?_, ?_, htab2.to (Below.alloc (Below.refl _ _) (Nat.le_refl _) _)⟩⟩
          · exact (cell_of_row _ _ _ _ _ (0, 0) (heap_alloc_new (w1.drewN nq) _)).trans rfl
          · exact (cell_of_row _ _ _ _ _ (0, 0) (heap_alloc_new (w1.drewN nq) _)).trans rfl
          · exact (cell_of_row _ _ _ _ _ (0, 0) (heap_alloc_new (w1.drewN nq) _)).trans rfl
        · have hr := Lib.hid (isCodeB_s (p := p) (q := q) (y := y) (k := k) hs)
          have hge : fsize p q ≤ l := by omega
          go_enter Try.func119, Try.ntmps119
          go_wp2_with fail
          refine (inRange_yes k 1 64 _ hk).mono ?_
          rintro e w' ⟨rfl, rfl⟩
          go_wp2_with fail
          refine (inRange_yes l (k + 1) 255 _ hl).mono ?_
          rintro e w' ⟨rfl, rfl⟩
          go_wp2_with fail
          refine (calc_spec p q y _).mono ?_
          unfold CalcRes
          rw [hf]
          rintro e w1 ⟨o, rfl, hb1, hrr⟩
          obtain ⟨G, rfl, hG, htab⟩ := hrr rfl
          have hsz := htab.size_
          have hbw := bt (Below.alloc (Below.refl w.heap.size w) (Nat.le_refl _) _) hb1
          obtain ⟨hcc, hff⟩ := bcell hb1
          have hd3 := (hcc w.heap.size 3 (by simp)).trans (show _ = some (Value.int .i64 l) from by rw [cell_of_row _ _ _ _ _ (0, 0) (heap_alloc_new w _)]; rfl)
          have hd4 := (hcc w.heap.size 4 (by simp)).trans (show _ = some (Value.int .i64 k) from by rw [cell_of_row _ _ _ _ _ (0, 0) (heap_alloc_new w _)]; rfl)
          clear hcc hff
          go_wp2_with fail
          go_quiet (fail)
          go_wp2_with fail
          go_ret2
          exact ⟨none, by rw [hr.out]; rfl, below_drewN hbw _, fun h => by rw [hr.out] at h; cases h⟩
    · have hr := Lib.hid (isCodeB_l (p := p) (q := q) (y := y) hl)
      go_enter Try.func119, Try.ntmps119
      go_wp2_with fail
      refine (inRange_yes k 1 64 _ hk).mono ?_
      rintro e w' ⟨rfl, rfl⟩
      go_wp2_with fail
      refine (inRange_no l (k + 1) 255 _ hl).mono ?_
      rintro e w' ⟨rfl, rfl⟩
      go_wp2_with fail
      go_ret2
      exact ⟨none, by rw [hr.out]; rfl, Below.alloc (Below.refl w.heap.size w) (Nat.le_refl _) _, fun h => by rw [hr.out] at h; cases h⟩
  · have hr := Lib.hid (isCodeB_k (p := p) (q := q) (y := y) (l := l) hk)
    go_enter Try.func119, Try.ntmps119
    go_wp2_with fail
    refine (inRange_no k 1 64 _ hk).mono ?_
    rintro e w' ⟨rfl, rfl⟩
    go_wp2_with fail
    go_ret2
    exact ⟨none, by rw [hr.out]; rfl, Below.alloc (Below.refl w.heap.size w) (Nat.le_refl _) _, fun h => by rw [hr.out] at h; cases h⟩
end Go.Proofs.Ytjdnaoidlblciaa
