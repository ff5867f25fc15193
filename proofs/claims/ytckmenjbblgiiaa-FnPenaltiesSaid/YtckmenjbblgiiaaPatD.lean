/-
  Contracts: patterns by their index, and those that stand for values.
  Conditions: none.
-/
import Derived.Test.YtckmenjbblgiiaaPatC
set_option linter.unusedVariables false
namespace Go.Proofs.Ytckmenjbblgiiaa
open Go.RowKit Go.G8
theorem flat_at {rows : List (List Int)} {k : Nat} {r : List Int} (h8 : ∀ q ∈ rows, q.length = 8) (hk : rows[k]? = some r) (j : Nat) (x : Int) (hx : r[j]? = some x) : (flat rows)[k * 8 + j]? = some (.int .i64 x) := by
  induction rows generalizing k with
  | nil => simp at hk
  | cons q rows ih =>
    have hq := h8 q (by simp)
    rcases k with _ | k
    · simp at hk
      subst hk
      have hj : j < q.length := (List.getElem?_eq_some_iff.1 hx).1
      unfold flat
      rw [List.flatMap_cons, Nat.zero_mul, Nat.zero_add, List.getElem?_append_left (by rw [ints_length]; exact hj)]
      exact ints_get hx
    · simp at hk
      have := ih (fun q hq => h8 q (by simp [hq])) hk
      unfold flat at *
      rw [List.flatMap_cons, List.getElem?_append_right (by rw [ints_length]; omega), ints_length, hq]
      rw [← this]
      congr 1
      omega
set_option maxHeartbeats 1000000 in
set_option maxRecDepth 20000 in
theorem implPatternAt_any (i : Int) (w : World) :
    Calls Try.prog 14 #[.int .i64 i] w (RetRow2 .i64 83 (rPatternAt i).1 (.int .i64 (rPatternAt i).2) w) := by
  by_cases h : 0 ≤ i ∧ i ≤ 119
  · obtain ⟨r, h1, h2⟩ := rPatternAt_yes h
    have hr := Lib.hid h2
    obtain ⟨I, rfl⟩ := Int.eq_ofNat_of_zero_le h.1
    rw [Int.toNat_natCast] at h1
    have hp := allP_row r (List.mem_of_getElem? h1)
    obtain ⟨x0, x1, x2, x3, x4, x5, x6, x7, rfl⟩ := list8 r hp.1
    have b1 : (0 : Int) ≤ (I : Int) := by omega
    have b2 : (I : Int) < 120 := by omega
    clear h2 hp
    go_enter Try.func14, Try.ntmps14
    go_wp2_with (go_at_call 57; refine (inRange_yes _ _ _ _ (by omega)).mono ?_; rintro e w' ⟨rfl, rfl⟩)
    refine (allPatterns_any _).mono ?_
    rintro e w1 ⟨a, c, rfl, ho, hb⟩
    obtain ⟨g, rfl, hg1, hg2⟩ := ho.form (by omega)
    have hcl := fun j x hx => ho.cellAt (flat_at (fun q hq => (allP_row q hq).1) h1 j x hx)
    have c0 : w1.cell? ⟨g, I * 8, none⟩ = some (.int .i64 x0) := hcl 0 x0 rfl
    have c1 := hcl 1 x1 rfl
    have c2 := hcl 2 x2 rfl
    have c3 := hcl 3 x3 rfl
    have c4 := hcl 4 x4 rfl
    have c5 := hcl 5 x5 rfl
    have c6 := hcl 6 x6 rfl
    have c7 := hcl 7 x7 rfl
    have hW := hb.size
    clear hcl ho
    go_wp2_with fail
    have hfin : Ow .i64 83 w1.heap.size (w1.alloc (.cells (ints .i64 [x0, x1, x2, x3, x4, x5, x6, x7]).toArray 83)) (some ⟨w1.heap.size, 0, none⟩) 8 8 [x0, x1, x2, x3, x4, x5, x6, x7] := Ow.lit w1 (Nat.le_refl _) (by simp)
    go_ret2
    exact retRow2_of hr.out (Ow.more hfin hW) (hb.alloc hW _)
  · have hr := Lib.hid (rPatternAt_no h)
    go_enter Try.func14, Try.ntmps14
    go_wp2_with (go_at_call 57; refine (inRange_no _ _ _ _ (by omega)).mono ?_; rintro e w' ⟨rfl, rfl⟩)
    go_ret2
    exact retRow2_nil hr.out (Below.refl _ _)
end Go.Proofs.Ytckmenjbblgiiaa
