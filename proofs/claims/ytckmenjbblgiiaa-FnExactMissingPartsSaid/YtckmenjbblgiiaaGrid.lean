/-
  Contracts: whether a grid is valid; a cell of a grid.
  Conditions: none.
-/
import Derived.Test.YtckmenjbblgiiaaProg
import Derived.Test.YtckmenjbblgiiaaRange
import Derived.Test.YtckmenjbblgiiaaBits
import Derived.Test.YtckmenjbblgiiaaLib
set_option linter.unusedVariables false
namespace Go.Proofs.Ytckmenjbblgiiaa
open Go.RowKit Go.G8
theorem grid_start (w : World) (a b c : Value) (T : TypeId) : Below w.heap.size w (w.alloc (.cells #[a, b, c] T)) ∧ w.heap.size < (w.alloc (.cells #[a, b, c] T)).heap.size ∧
    (w.alloc (.cells #[a, b, c] T)).cell? ⟨w.heap.size, 0, none⟩ = some a ∧ (w.alloc (.cells #[a, b, c] T)).cell? ⟨w.heap.size, 1, none⟩ = some b ∧ (w.alloc (.cells #[a, b, c] T)).cell? ⟨w.heap.size, 2, none⟩ = some c := by
  refine ⟨Below.alloc (Below.refl _ _) (Nat.le_refl _) _, by simp, ?_, ?_, ?_⟩ <;> rw [cell_of_row _ _ _ _ _ (0, 0) (heap_alloc_new w _)] <;> rfl
def cellsB (xs : List Int) : Bool := xs.all (fun x => decide (-1 ≤ x ∧ x ≤ 1))
def sizeB (r c : Int) (n : Nat) : Prop := (1 ≤ r ∧ r ≤ 40000) ∧ (1 ≤ c ∧ c ≤ 40000) ∧ r * c ≤ 40000 ∧ (n : Int) = r * c
instance (r c : Int) (n : Nat) : Decidable (sizeB r c n) := by unfold sizeB; exact inferInstance
def gridB (r c : Int) (xs : List Int) : Bool := decide (sizeB r c xs.length) && cellsB xs
theorem gridB_no {r c : Int} {xs : List Int} (h : ¬ sizeB r c xs.length) : gridB r c xs = false := by unfold gridB; rw [decide_eq_false h]; rfl
theorem gridB_yes {r c : Int} {xs : List Int} (h : sizeB r c xs.length) : gridB r c xs = cellsB xs := by unfold gridB; rw [decide_eq_true h]; rfl
theorem cells_bad {xs : List Int} {k : Nat} {x : Int} (hx : xs[k]? = some x) (h : ¬ (-1 ≤ x ∧ x ≤ 1)) : cellsB xs = false := by
  rw [Bool.eq_false_iff]
  intro e
  have := List.all_eq_true.1 e x (List.mem_of_getElem? hx)
  simp at this
  exact h this
theorem cells_all {xs : List Int} (h : ∀ x ∈ xs, -1 ≤ x ∧ x ≤ 1) : cellsB xs = true := List.all_eq_true.2 (fun x hx => by simpa using h x hx)
theorem mul_bd {r c : Int} (h1 : 1 ≤ r ∧ r ≤ 40000) (h2 : 1 ≤ c ∧ c ≤ 40000) : 1 ≤ r * c ∧ r * c ≤ 1600000000 := by
  have a := Int.mul_le_mul h1.2 h2.2 (by omega) (by omega)
  have b := Int.mul_le_mul h1.1 h2.1 (by omega) (by omega)
  omega
set_option maxHeartbeats 1000000 in
theorem specIsGrid_any (r c : Int) (a : Option Addr) (n k : Nat) (xs : List Int) (w : World) (h : Rd .i64 w a n xs) (hn : n ≤ 1000000000) :
    Calls Try.prog 101 #[.agg #[.int .i64 r, .int .i64 c, .slice a n k]] w (Ret (.bool (gridB r c xs)) w) := by
  have HL := Lib.hid h.len
  obtain ⟨hw0, hlt0, c0, c1, c2⟩ := grid_start w (.int .i64 r) (.int .i64 c) (.slice a n k) 41
  by_cases hr1 : 1 ≤ r ∧ r ≤ 40000
  · by_cases hc1 : 1 ≤ c ∧ c ≤ 40000
    · obtain ⟨hp1, hp2⟩ := mul_bd hr1 hc1
      obtain ⟨P, hP⟩ : ∃ P, r * c = P := ⟨_, rfl⟩
      rw [hP] at hp1 hp2
      have e1 : IntKind.i64.wrap (r * c) = P := by rw [hP]; exact IntWalk.i64_in _ (by omega)
      by_cases hs : P ≤ 40000 ∧ (n : Int) = P
      · obtain ⟨hs1, hs2⟩ := hs
        have hr := Lib.hid (gridB_yes (r := r) (c := c) (xs := xs) (by unfold sizeB; rw [HL.out, hP]; exact ⟨hr1, hc1, hs1, hs2⟩))
        have d1 : decide ((40000 : Int) < P) = false := by simp; omega
        have d2 : ((n : Int) != P) = false := by simp [hs2]
        have hR := h.to hw0
        go_enter Try.func101, Try.ntmps101
        go_wp2_with (go_at_call 59; refine (l01In_yes _ _ _ _ (by omega)).mono ?_; rintro e w' ⟨rfl, rfl⟩)
        clear hlt0 c0 c1 e1 d1 d2
        generalize (w.alloc (.cells #[.int .i64 r, .int .i64 c, .slice a n k] 41)) = W at *
        go_loop [3] (fun i => ∃ j : Nat, j ≤ n ∧ i = .int .i64 j ∧ Hid (∀ x ∈ xs.take j, -1 ≤ x ∧ x ≤ 1)) (fun i => n - (intOf i).toNat)
        case atStart => exact ⟨0, Nat.zero_le _, rfl, by intro x hx; simp at hx⟩
        case round =>
          obtain ⟨j, hj, rfl, hall⟩ := hrel
          by_cases hlt : j < n
          · obtain ⟨b, o, x, rfl, -, hc, hx, -, -⟩ := hR.at_ hlt
            by_cases h01 : -1 ≤ x ∧ x ≤ 1
            · have H01 := Lib.hid h01
              obtain ⟨h1, h2⟩ := h01
              go_wp2_with (go_at_call 59; refine (l01In_yes _ _ _ _ (by omega)).mono ?_; rintro e w' ⟨rfl, rfl⟩)
              go_round
              case rel => exact ⟨j + 1, by omega, by go_num, all_take hx.out hall.out H01.out⟩
              case measure => simp [intOf]; omega
            · have hbad := Lib.hid (hr.out.trans (cells_bad hx.out h01))
              go_wp2_with (go_at_call 59; refine (l01In_no _ _ _ _ (by omega)).mono ?_; rintro e w' ⟨rfl, rfl⟩)
              go_ret
              exact ⟨ret_bool hbad.out.symm, hw0⟩
          · obtain rfl : j = n := by omega
            have hgood := Lib.hid (hr.out.trans (cells_all (by have := hall.out; rwa [List.take_of_length_le (by rw [HL.out]; exact Nat.le_refl _)] at this)))
            go_wp2
            go_ret
            exact ⟨ret_bool hgood.out.symm, hw0⟩
      · have hr := Lib.hid (gridB_no (r := r) (c := c) (xs := xs) (by unfold sizeB; rw [HL.out, hP]; exact fun hh => hs hh.2.2))
        by_cases hs1 : P ≤ 40000
        · have d1 : decide ((40000 : Int) < P) = false := by simp; omega
          have d2 : ((n : Int) != P) = true := by rw [bne_iff_ne]; exact fun e => hs ⟨hs1, e⟩
          clear hs
          go_enter Try.func101, Try.ntmps101
          go_wp2_with (go_at_call 59; refine (l01In_yes _ _ _ _ (by omega)).mono ?_; rintro e w' ⟨rfl, rfl⟩)
          go_ret
          exact ⟨ret_bool hr.out.symm, hw0⟩
        · have d1 : decide ((40000 : Int) < P) = true := by simp; omega
          clear hs
          go_enter Try.func101, Try.ntmps101
          go_wp2_with (go_at_call 59; refine (l01In_yes _ _ _ _ (by omega)).mono ?_; rintro e w' ⟨rfl, rfl⟩)
          go_ret
          exact ⟨ret_bool hr.out.symm, hw0⟩
    · have hr := Lib.hid (gridB_no (r := r) (c := c) (xs := xs) (fun hh => hc1 hh.2.1))
      go_enter Try.func101, Try.ntmps101
      go_wp2_with (first | (go_at_call 59; refine (l01In_yes _ _ _ _ (by omega)).mono ?_; rintro e w' ⟨rfl, rfl⟩) | (go_at_call 59; refine (l01In_no _ _ _ _ (by omega)).mono ?_; rintro e w' ⟨rfl, rfl⟩))
      go_ret
      exact ⟨ret_bool hr.out.symm, hw0⟩
  · have hr := Lib.hid (gridB_no (r := r) (c := c) (xs := xs) (fun hh => hr1 hh.1))
    go_enter Try.func101, Try.ntmps101
    go_wp2_with (go_at_call 59; refine (l01In_no _ _ _ _ (by omega)).mono ?_; rintro e w' ⟨rfl, rfl⟩)
    go_ret
    exact ⟨ret_bool hr.out.symm, hw0⟩
set_option maxHeartbeats 1000000 in
theorem implIsGrid_any (r c : Int) (a : Option Addr) (n k : Nat) (xs : List Int) (w : World) (h : Rd .i64 w a n xs) (hn : n ≤ 1000000000) :
    Calls Try.prog 69 #[.agg #[.int .i64 r, .int .i64 c, .slice a n k]] w (Ret (.bool (gridB r c xs)) w) := by
  have HL := Lib.hid h.len
  obtain ⟨hw0, hlt0, c0, c1, c2⟩ := grid_start w (.int .i64 r) (.int .i64 c) (.slice a n k) 41
  by_cases hr1 : 1 ≤ r ∧ r ≤ 40000
  · by_cases hc1 : 1 ≤ c ∧ c ≤ 40000
    · obtain ⟨hp1, hp2⟩ := mul_bd hr1 hc1
      obtain ⟨P, hP⟩ : ∃ P, r * c = P := ⟨_, rfl⟩
      rw [hP] at hp1 hp2
      have e1 : IntKind.i64.wrap (r * c) = P := by rw [hP]; exact IntWalk.i64_in _ (by omega)
      by_cases hs : P ≤ 40000 ∧ (n : Int) = P
      · obtain ⟨hs1, hs2⟩ := hs
        have hr := Lib.hid (gridB_yes (r := r) (c := c) (xs := xs) (by unfold sizeB; rw [HL.out, hP]; exact ⟨hr1, hc1, hs1, hs2⟩))
        have d1 : decide ((40000 : Int) < P) = false := by simp; omega
        have d2 : ((n : Int) != P) = false := by simp [hs2]
        have hR := h.to hw0
        go_enter Try.func69, Try.ntmps69
        go_wp2_with (go_at_call 57; refine (inRange_yes _ _ _ _ (by omega)).mono ?_; rintro e w' ⟨rfl, rfl⟩)
        clear hlt0 c0 c1 e1 d1 d2
        generalize (w.alloc (.cells #[.int .i64 r, .int .i64 c, .slice a n k] 41)) = W at *
        go_loop [37] (fun i => ∃ j : Nat, j ≤ n ∧ i = .int .i64 j ∧ Hid (∀ x ∈ xs.take j, -1 ≤ x ∧ x ≤ 1)) (fun i => n - (intOf i).toNat)
        case atStart => exact ⟨0, Nat.zero_le _, rfl, by intro x hx; simp at hx⟩
        case round =>
          obtain ⟨j, hj, rfl, hall⟩ := hrel
          by_cases hlt : j < n
          · obtain ⟨b, o, x, rfl, -, hc, hx, -, -⟩ := hR.at_ hlt
            by_cases h01 : -1 ≤ x ∧ x ≤ 1
            · have H01 := Lib.hid h01
              obtain ⟨h1, h2⟩ := h01
              go_wp2_with (go_at_call 57; refine (inRange_yes _ _ _ _ (by omega)).mono ?_; rintro e w' ⟨rfl, rfl⟩)
              go_round
              case rel => exact ⟨j + 1, by omega, by go_num, all_take hx.out hall.out H01.out⟩
              case measure => simp [intOf]; omega
            · have hbad := Lib.hid (hr.out.trans (cells_bad hx.out h01))
              go_wp2_with (go_at_call 57; refine (inRange_no _ _ _ _ (by omega)).mono ?_; rintro e w' ⟨rfl, rfl⟩)
              go_ret
              exact ⟨ret_bool hbad.out.symm, hw0⟩
          · obtain rfl : j = n := by omega
            have hgood := Lib.hid (hr.out.trans (cells_all (by have := hall.out; rwa [List.take_of_length_le (by rw [HL.out]; exact Nat.le_refl _)] at this)))
            go_wp2
            go_ret
            exact ⟨ret_bool hgood.out.symm, hw0⟩
      · have hr := Lib.hid (gridB_no (r := r) (c := c) (xs := xs) (by unfold sizeB; rw [HL.out, hP]; exact fun hh => hs hh.2.2))
        by_cases hs1 : P ≤ 40000
        · have d1 : decide ((40000 : Int) < P) = false := by simp; omega
          have d2 : ((n : Int) != P) = true := by rw [bne_iff_ne]; exact fun e => hs ⟨hs1, e⟩
          clear hs
          go_enter Try.func69, Try.ntmps69
          go_wp2_with (go_at_call 57; refine (inRange_yes _ _ _ _ (by omega)).mono ?_; rintro e w' ⟨rfl, rfl⟩)
          go_ret
          exact ⟨ret_bool hr.out.symm, hw0⟩
        · have d1 : decide ((40000 : Int) < P) = true := by simp; omega
          clear hs
          go_enter Try.func69, Try.ntmps69
          go_wp2_with (go_at_call 57; refine (inRange_yes _ _ _ _ (by omega)).mono ?_; rintro e w' ⟨rfl, rfl⟩)
          go_ret
          exact ⟨ret_bool hr.out.symm, hw0⟩
    · have hr := Lib.hid (gridB_no (r := r) (c := c) (xs := xs) (fun hh => hc1 hh.2.1))
      go_enter Try.func69, Try.ntmps69
      go_wp2_with (first | (go_at_call 57; refine (inRange_yes _ _ _ _ (by omega)).mono ?_; rintro e w' ⟨rfl, rfl⟩) | (go_at_call 57; refine (inRange_no _ _ _ _ (by omega)).mono ?_; rintro e w' ⟨rfl, rfl⟩))
      go_ret
      exact ⟨ret_bool hr.out.symm, hw0⟩
  · have hr := Lib.hid (gridB_no (r := r) (c := c) (xs := xs) (fun hh => hr1 hh.1))
    go_enter Try.func69, Try.ntmps69
    go_wp2_with (go_at_call 57; refine (inRange_no _ _ _ _ (by omega)).mono ?_; rintro e w' ⟨rfl, rfl⟩)
    go_ret
    exact ⟨ret_bool hr.out.symm, hw0⟩
end Go.Proofs.Ytckmenjbblgiiaa
