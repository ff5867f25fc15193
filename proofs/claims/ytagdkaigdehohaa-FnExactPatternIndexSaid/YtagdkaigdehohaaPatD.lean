/-
  Contracts: patterns by their index, and those that stand for values.
  Conditions: none.
-/
import Derived.Test.YtagdkaigdehohaaPatC
set_option linter.unusedVariables false
namespace Go.Proofs.Ytagdkaigdehohaa
open Go.RowKit Go.G8
theorem flat_at {rows : List (List Int)} {k : Nat} {r : List Int} (h8 : ∀ q ∈ rows, q.length = 8) (hk : rows[k]? = some r) (j : Nat) (x : Int) (hx : r[j]? = some x) : (flat rows)[k * 8 + j]? = some (.int .i64 x) := by
  induction rows generalizing k with
  | nil => simp at hk
  | cons q rows ih =>
    have hq := h8 q (by simp)
    rcases k with _ | k
    · simp at hk
      subst hk
      have hj : j < q.length := (List.getElem?_eq_some_iff.1 hx).1
      unfold flat
      rw [List.flatMap_cons, Nat.zero_mul, Nat.zero_add, List.getElem?_append_left (by rw [ints_length]; exact hj)]
      exact ints_get hx
    · simp at hk
      have := ih (fun q hq => h8 q (by simp [hq])) hk
      unfold flat at *
      rw [List.flatMap_cons, List.getElem?_append_right (by rw [ints_length]; omega), ints_length, hq]
      rw [← this]
      congr 1
      omega
set_option maxHeartbeats 1000000 in
set_option maxRecDepth 20000 in
theorem implPatternAt_any (i : Int) (w : World) :
    Calls Try.prog 30 #[.int .i64 i] w (RetRow2 .i64 83 (rPatternAt i).1 (.int .i64 (rPatternAt i).2) w) := by
  by_cases h : 0 ≤ i ∧ i ≤ 119
  · obtain ⟨r, h1, h2⟩ := rPatternAt_yes h
    have hr := Lib.hid h2
    obtain ⟨I, rfl⟩ := Int.eq_ofNat_of_zero_le h.1
    rw [Int.toNat_natCast] at h1
    have hp := allP_row r (List.mem_of_getElem? h1)
    obtain ⟨x0, x1, x2, x3, x4, x5, x6, x7, rfl⟩ := list8 r hp.1
    have b1 : (0 : Int) ≤ (I : Int) := by omega
    have b2 : (I : Int) < 120 := by omega
    clear h2 hp
    go_enter Try.func30, Try.ntmps30
    go_wp2_with (go_at_call 64; refine (inRange_yes _ _ _ _ (by omega)).mono ?_; rintro e w' ⟨rfl, rfl⟩)
    refine (allPatterns_any _).mono ?_
    rintro e w1 ⟨a, c, rfl, ho, hb⟩
    obtain ⟨g, rfl, hg1, hg2⟩ := ho.form (by omega)
    have hcl := fun j x hx => ho.cellAt (flat_at (fun q hq => (allP_row q hq).1) h1 j x hx)
    have c0 : w1.cell? ⟨g, I * 8, none⟩ = some (.int .i64 x0) := hcl 0 x0 rfl
    have c1 := hcl 1 x1 rfl
    have c2 := hcl 2 x2 rfl
    have c3 := hcl 3 x3 rfl
    have c4 := hcl 4 x4 rfl
    have c5 := hcl 5 x5 rfl
    have c6 := hcl 6 x6 rfl
    have c7 := hcl 7 x7 rfl
    have hW := hb.size
    clear hcl ho
    go_wp2_with fail
    have hfin : Ow .i64 83 w1.heap.size (w1.alloc (.cells (ints .i64 [x0, x1, x2, x3, x4, x5, x6, x7]).toArray 83)) (some ⟨w1.heap.size, 0, none⟩) 8 8 [x0, x1, x2, x3, x4, x5, x6, x7] := Ow.lit w1 (Nat.le_refl _) (by simp)
    go_ret2
    exact retRow2_of hr.out (Ow.more hfin hW) (hb.alloc hW _)
  · have hr := Lib.hid (rPatternAt_no h)
    go_enter Try.func30, Try.ntmps30
    go_wp2_with (go_at_call 64; refine (inRange_no _ _ _ _ (by omega)).mono ?_; rintro e w' ⟨rfl, rfl⟩)
    go_ret2
    exact retRow2_nil hr.out (Below.refl _ _)
theorem l17Cluster_yes (c : Int) (w : World) (h : 0 ≤ c ∧ c ≤ 2) : Calls Try.prog 75 #[.int .i64 c] w (RetS (.bool true) w) := by
  go_enter Try.func75, Try.ntmps75
  go_wp2_with (go_at_call 61; refine (l01In_yes _ _ _ _ (by omega)).mono ?_; rintro e w' ⟨rfl, rfl⟩)
  go_ret
  exact ⟨rfl, rfl⟩
theorem l17Cluster_no (c : Int) (w : World) (h : ¬ (0 ≤ c ∧ c ≤ 2)) : Calls Try.prog 75 #[.int .i64 c] w (RetS (.bool false) w) := by
  go_enter Try.func75, Try.ntmps75
  go_wp2_with (go_at_call 61; refine (l01In_no _ _ _ _ (by omega)).mono ?_; rintro e w' ⟨rfl, rfl⟩)
  go_ret
  exact ⟨rfl, rfl⟩
theorem rPatternFor_no {c v : Int} (h : ¬ ((0 ≤ v ∧ v ≤ 31) ∧ (0 ≤ c ∧ c ≤ 2))) : rPatternFor c v = ([], 2) := by unfold rPatternFor; rw [if_neg h]
set_option maxHeartbeats 1000000 in
theorem specPatternFor_any (c v : Int) (w : World) :
    Calls Try.prog 34 #[.int .i64 c, .int .i64 v] w (RetRow2 .i64 2 (rPatternFor c v).1 (.int .i64 (rPatternFor c v).2) w) := by
  by_cases hc : 0 ≤ c ∧ c ≤ 2
  · have HC := Lib.hid (fun w => l17Cluster_yes c w hc)
    by_cases hv : 0 ≤ v ∧ v ≤ 31
    · have hr0 : rPatternFor c v = rPatternAt (3 * v + c) := by unfold rPatternFor; rw [if_pos ⟨hv, hc⟩]
      have h : 0 ≤ 3 * v + c ∧ 3 * v + c ≤ 119 := by omega
      obtain ⟨r, h1, h2⟩ := rPatternAt_yes h
      have hr := Lib.hid (hr0.trans h2)
      obtain ⟨hc1, hc2⟩ := hc
      obtain ⟨hv1, hv2⟩ := hv
      obtain ⟨I, hI⟩ : ∃ I : Nat, 3 * v + c = (I : Int) := Int.eq_ofNat_of_zero_le h.1
      rw [hI, Int.toNat_natCast] at h1
      have e1 : IntKind.i64.wrap (3 * v) = 3 * v := IntWalk.i64_in _ (by omega)
      have e2 : IntKind.i64.wrap (3 * v + c) = (I : Int) := by rw [hI]; exact IntWalk.i64_in _ (by omega)
      have b1 : (0 : Int) ≤ (I : Int) := by omega
      have b3 : (I : Int) < 120 := by omega
      clear h2 hr0 h
      go_enter Try.func34, Try.ntmps34
      go_wp2_with (first | (go_at_call 75; refine (HC.out _).mono ?_; rintro e w' ⟨rfl, rfl⟩) | (go_at_call 61; refine (l01In_yes _ _ _ _ (by omega)).mono ?_; rintro e w' ⟨rfl, rfl⟩))
      refine (l17All_any _).mono ?_
      rintro e w1 ⟨a, n, k, vs, rfl, hP, hb⟩
      have hn := prv_len hP
      rw [allP_len] at hn
      obtain ⟨b, m, d, hv, ho⟩ := hP.2.2 I r h1
      obtain ⟨g, rfl, hg1, hg2⟩ := hP.1.form (by omega)
      have hcell := hP.1.cellAt hv
      have b2 : (I : Int) < (n : Int) := by omega
      clear hP hn hv
      go_wp2_with fail
      go_ret2
      exact retRow2_of hr.out ho hb
    · have hr := Lib.hid (rPatternFor_no (c := c) (v := v) (fun e => hv e.1))
      go_enter Try.func34, Try.ntmps34
      go_wp2_with (first | (go_at_call 75; refine (HC.out _).mono ?_; rintro e w' ⟨rfl, rfl⟩) | (go_at_call 61; refine (l01In_no _ _ _ _ (by omega)).mono ?_; rintro e w' ⟨rfl, rfl⟩))
      go_ret2
      exact retRow2_nil hr.out (Below.refl _ _)
  · have HC := Lib.hid (fun w => l17Cluster_no c w hc)
    have hr := Lib.hid (rPatternFor_no (c := c) (v := v) (fun e => hc e.2))
    go_enter Try.func34, Try.ntmps34
    go_wp2_with (go_at_call 75; refine (HC.out _).mono ?_; rintro e w' ⟨rfl, rfl⟩)
    go_ret2
    exact retRow2_nil hr.out (Below.refl _ _)
set_option maxHeartbeats 1000000 in
theorem implPatternFor_any (c v : Int) (w : World) :
    Calls Try.prog 35 #[.int .i64 c, .int .i64 v] w (RetRow2 .i64 83 (rPatternFor c v).1 (.int .i64 (rPatternFor c v).2) w) := by
  by_cases hv : 0 ≤ v ∧ v ≤ 31
  · by_cases hc : 0 ≤ c ∧ c ≤ 2
    · have hr0 : rPatternFor c v = rPatternAt (3 * v + c) := by unfold rPatternFor; rw [if_pos ⟨hv, hc⟩]
      rw [hr0]
      have HP := Lib.hid (fun w => implPatternAt_any (3 * v + c) w)
      clear hr0
      obtain ⟨hc1, hc2⟩ := hc
      obtain ⟨hv1, hv2⟩ := hv
      have e1 : IntKind.i64.wrap (3 * v) = 3 * v := IntWalk.i64_in _ (by omega)
      have e2 : IntKind.i64.wrap (3 * v + c) = 3 * v + c := IntWalk.i64_in _ (by omega)
      go_enter Try.func35, Try.ntmps35
      go_wp2_with (go_at_call 64; refine (inRange_yes _ _ _ _ (by omega)).mono ?_; rintro e w' ⟨rfl, rfl⟩)
      refine (HP.out _).mono ?_
      rintro e w1 ⟨a, n, k, rfl, ho, hb⟩
      go_wp2_with fail
      go_ret2
      exact ⟨_, _, _, rfl, ho, hb⟩
    · have hr := Lib.hid (rPatternFor_no (c := c) (v := v) (fun e => hc e.2))
      go_enter Try.func35, Try.ntmps35
      go_wp2_with (first | (go_at_call 64; refine (inRange_yes _ _ _ _ (by omega)).mono ?_; rintro e w' ⟨rfl, rfl⟩) | (go_at_call 64; refine (inRange_no _ _ _ _ (by omega)).mono ?_; rintro e w' ⟨rfl, rfl⟩))
      go_ret2
      exact retRow2_nil hr.out (Below.refl _ _)
  · have hr := Lib.hid (rPatternFor_no (c := c) (v := v) (fun e => hv e.1))
    go_enter Try.func35, Try.ntmps35
    go_wp2_with (go_at_call 64; refine (inRange_no _ _ _ _ (by omega)).mono ?_; rintro e w' ⟨rfl, rfl⟩)
    go_ret2
    exact retRow2_nil hr.out (Below.refl _ _)
end Go.Proofs.Ytagdkaigdehohaa
