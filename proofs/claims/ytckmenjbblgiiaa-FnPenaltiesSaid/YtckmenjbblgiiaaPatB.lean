/-
  Contracts: patterns by their index, by the reference.
  Conditions: none.
-/
import Derived.Test.YtckmenjbblgiiaaPatA
import Derived.Test.YtckmenjbblgiiaaRange
set_option linter.unusedVariables false
namespace Go.Proofs.Ytckmenjbblgiiaa
open Go.RowKit Go.G8
def allP : List (List Int) := pats 8 11
theorem allP_len : allP.length = 120 := by decide +kernel
theorem allP_row (r : List Int) (h : r ∈ allP) : r.length = 8 ∧ ∀ x ∈ r, 1 ≤ x ∧ x ≤ 11 := pats_parts 8 11 (by omega) (by omega) (by omega) r h
def rPatternAt (i : Int) : List Int × Int := if 0 ≤ i ∧ i ≤ 119 then (allP[i.toNat]?.getD [], 0) else ([], 2)
theorem rPatternAt_yes {i : Int} (h : 0 ≤ i ∧ i ≤ 119) : ∃ r, allP[i.toNat]? = some r ∧ rPatternAt i = (r, 0) := by
  refine ⟨allP[i.toNat]'(by rw [allP_len]; omega), List.getElem?_eq_getElem _, ?_⟩
  unfold rPatternAt
  rw [if_pos h, List.getElem?_eq_getElem (by rw [allP_len]; omega)]
  rfl
theorem rPatternAt_no {i : Int} (h : ¬ (0 ≤ i ∧ i ≤ 119)) : rPatternAt i = ([], 2) := by unfold rPatternAt; rw [if_neg h]
def rPatternFor (c v : Int) : List Int × Int := if (0 ≤ v ∧ v ≤ 31) ∧ (0 ≤ c ∧ c ≤ 2) then rPatternAt (3 * v + c) else ([], 2)
theorem rPatternAt_ok (i : Int) : (rPatternAt i).1.length ≤ 1000000 ∧ ∀ x ∈ (rPatternAt i).1, fits .i64 x := by
  by_cases h : 0 ≤ i ∧ i ≤ 119
  · obtain ⟨r, h1, h2⟩ := rPatternAt_yes h
    have := allP_row r (List.mem_of_getElem? h1)
    rw [h2]
    refine ⟨by simp only []; omega, fun x hx => ?_⟩
    have := this.2 x hx
    show -9223372036854775808 ≤ x ∧ x ≤ 9223372036854775807
    omega
  · rw [rPatternAt_no h]
    exact ⟨by simp, fun x hx => by simp at hx⟩
theorem rPatternFor_ok (c v : Int) : (rPatternFor c v).1.length ≤ 1000000 ∧ ∀ x ∈ (rPatternFor c v).1, fits .i64 x := by
  unfold rPatternFor
  split
  · exact rPatternAt_ok _
  · exact ⟨by simp, fun x hx => by simp at hx⟩
theorem l17Patterns_any : ∀ (k s : Nat) (w : World), k + 1 ≤ 8 → s ≤ 11 → k + 1 ≤ s → Calls Try.prog 94 #[.int .i64 ((k + 1 : Nat) : Int), .int .i64 s] w (RetPats (pats (k + 1) s) w) := by
  intro k
  induction k with
  | zero => intro s w _ hs _; simpa using l17Patterns_one s w hs
  | succ k ih => intro s w hk hs hks; exact l17Patterns_step k s _ _ (by omega) rfl w hk hs hks (fun t W h1 h2 => ih t W (by omega) h1 h2)
theorem l17All_any (w : World) : Calls Try.prog 60 #[] w (RetPats allP w) := by
  have HP := Lib.hid (fun w => l17Patterns_any 7 11 w (by omega) (by omega) (by omega))
  go_enter Try.func60, Try.ntmps60
  go_wp2_with fail
  refine (HP.out _).mono ?_
  rintro e w1 ⟨a, n, c, vs, rfl, h1, h2⟩
  go_wp2_with fail
  go_ret
  exact ⟨_, _, _, _, rfl, h1, h2⟩
set_option maxHeartbeats 1000000 in
theorem specPatternAt_any (i : Int) (w : World) :
    Calls Try.prog 15 #[.int .i64 i] w (RetRow2 .i64 2 (rPatternAt i).1 (.int .i64 (rPatternAt i).2) w) := by
  by_cases h : 0 ≤ i ∧ i ≤ 119
  · obtain ⟨r, h1, h2⟩ := rPatternAt_yes h
    have hr := Lib.hid h2
    obtain ⟨I, rfl⟩ := Int.eq_ofNat_of_zero_le h.1
    rw [Int.toNat_natCast] at h1
    have b1 : (0 : Int) ≤ (I : Int) := by omega
    clear h2
    go_enter Try.func15, Try.ntmps15
    go_wp2_with (go_at_call 59; refine (l01In_yes _ _ _ _ (by omega)).mono ?_; rintro e w' ⟨rfl, rfl⟩)
    refine (l17All_any _).mono ?_
    rintro e w1 ⟨a, n, c, vs, rfl, hP, hb⟩
    have hn := prv_len hP
    rw [allP_len] at hn
    obtain ⟨b, m, d, hv, ho⟩ := hP.2.2 I r h1
    obtain ⟨g, rfl, hg1, hg2⟩ := hP.1.form (by omega)
    have hcell := hP.1.cellAt hv
    have b2 : (I : Int) < (n : Int) := by omega
    clear hP hn hv
    go_wp2_with fail
    go_ret2
    exact retRow2_of hr.out ho hb
  · have hr := Lib.hid (rPatternAt_no h)
    go_enter Try.func15, Try.ntmps15
    go_wp2_with (go_at_call 59; refine (l01In_no _ _ _ _ (by omega)).mono ?_; rintro e w' ⟨rfl, rfl⟩)
    go_ret2
    exact retRow2_nil hr.out (Below.refl _ _)
end Go.Proofs.Ytckmenjbblgiiaa
