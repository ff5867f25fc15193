/-
  Contracts: names of families, lists that rise.
  Conditions: none.
-/
import Derived.Test.YtckmenjbblgiiaaPenP
import Derived.Test.YtckmenjbblgiiaaBits
set_option linter.unusedVariables false
namespace Go.Proofs.Ytckmenjbblgiiaa
open Go.RowKit Go.G8
def azB (s : ByteArray) (k : Nat) : Bool := ((strI s).take k).all (fun x => decide (97 ≤ x ∧ x ≤ 122))
def nameB (s : ByteArray) : Bool := azB s s.size && decide (1 ≤ s.size ∧ s.size ≤ 8)
theorem azB_step {s : ByteArray} {k : Nat} {x : Int} (h : (strI s)[k]? = some x) : azB s (k + 1) = (azB s k && decide (97 ≤ x ∧ x ≤ 122)) := by
  unfold azB
  rw [take_snoc h, List.all_append]
  simp
theorem azB_stop {s : ByteArray} {k : Nat} (h : azB s k = false) : ∀ n, k ≤ n → n ≤ s.size → azB s n = false := by
  intro n hn
  induction n with
  | zero => intro _; rw [show k = 0 by omega] at h; exact h
  | succ n ih =>
    intro hs
    by_cases e : k = n + 1
    · rw [← e]; exact h
    · have hl := strI_length s
      rw [azB_step (List.getElem?_eq_getElem (show n < (strI s).length by omega)), ih (by omega) (by omega)]
      rfl
theorem nameB_bad {s : ByteArray} {k : Nat} {x : Int} (hx : (strI s)[k]? = some x) (h : ¬ (97 ≤ x ∧ x ≤ 122)) : nameB s = false := by
  have hk : k < s.size := by have := (List.getElem?_eq_some_iff.1 hx).1; rwa [strI_length] at this
  have h1 : azB s (k + 1) = false := by rw [azB_step hx, decide_eq_false h, Bool.and_false]
  unfold nameB
  rw [azB_stop h1 _ (by omega) (Nat.le_refl _)]
  rfl
/-- The first k numbers lie in a range and rise. -/
def rB (lo hi : Int) (xs : List Int) : Nat → Bool
  | 0 => true
  | k + 1 => rB lo hi xs k && (decide (lo ≤ cellN xs k ∧ cellN xs k ≤ hi) && decide (k = 0 ∨ cellN xs (k - 1) < cellN xs k))
theorem rB_stop {lo hi : Int} {xs : List Int} {k : Nat} (h : rB lo hi xs k = false) : ∀ n, k ≤ n → rB lo hi xs n = false := by
  intro n hn
  induction n with
  | zero => rw [show k = 0 by omega] at h; exact h
  | succ n ih =>
    by_cases e : k = n + 1
    · rw [← e]; exact h
    · rw [rB, ih (by omega)]; rfl
theorem rB_yes {lo hi : Int} {xs : List Int} {k : Nat} {x : Int} (h : rB lo hi xs k = true) (hx : xs[k]? = some x) (h1 : lo ≤ x ∧ x ≤ hi) (h2 : k = 0 ∨ cellN xs (k - 1) < x) : rB lo hi xs (k + 1) = true := by
  rw [rB, h, cellN_of hx, decide_eq_true h1, decide_eq_true h2]; rfl
theorem rB_no1 {lo hi : Int} {xs : List Int} {k : Nat} {x : Int} (hx : xs[k]? = some x) (h1 : ¬ (lo ≤ x ∧ x ≤ hi)) : rB lo hi xs (k + 1) = false := by
  rw [rB, cellN_of hx, decide_eq_false h1, Bool.false_and, Bool.and_false]
theorem rB_no2 {lo hi : Int} {xs : List Int} {k : Nat} {x : Int} (hx : xs[k]? = some x) (h2 : ¬ (k = 0 ∨ cellN xs (k - 1) < x)) : rB lo hi xs (k + 1) = false := by
  rw [rB, cellN_of hx, decide_eq_false h2, Bool.and_false, Bool.and_false]
theorem l13Name_any (s : ByteArray) (w : World) (hs : s.size ≤ 1000000000) : Calls Try.prog 75 #[.string s] w (RetS (.bool (nameB s)) w) := by
  go_enter Try.func75, Try.ntmps75
  go_wp2
  go_loop [3] (fun i => ∃ k : Nat, k ≤ s.size ∧ i = .int .i64 k ∧ Hid (azB s k = true)) (fun i => s.size - (intOf i).toNat)
  case atStart => exact ⟨0, Nat.zero_le _, rfl, rfl⟩
  case round =>
    obtain ⟨k, hk, rfl, haz⟩ := hrel
    by_cases hlt : k < s.size
    · obtain ⟨x, hsx, hx, hx1, hx2⟩ := str_at s k hlt
      by_cases hok : 97 ≤ x ∧ x ≤ 122
      · have haz2 := Lib.hid (show azB s (k + 1) = true by rw [azB_step hx.out, haz.out, decide_eq_true hok]; rfl)
        obtain ⟨ho1, ho2⟩ := hok
        go_wp2
        go_round
        case rel => exact ⟨k + 1, by omega, by go_num, haz2⟩
        case measure => simp [intOf]; omega
      · have hbad := Lib.hid (nameB_bad hx.out hok)
        by_cases hlo : x < 97
        · clear hok
          go_wp2
          go_ret
          exact ⟨ret_bool hbad.out.symm, rfl⟩
        · have hhi : 122 < x := by omega
          clear hok
          go_wp2
          go_ret
          exact ⟨ret_bool hbad.out.symm, rfl⟩
    · obtain rfl : k = s.size := by omega
      have hr := Lib.hid (show nameB s = decide (1 ≤ s.size ∧ s.size ≤ 8) by unfold nameB; rw [haz.out]; rfl)
      by_cases h1 : 1 ≤ s.size
      · by_cases h8 : s.size ≤ 8
        · rw [decide_eq_true ⟨h1, h8⟩] at hr
          go_wp2
          go_ret
          exact ⟨ret_bool (by rw [hr.out]; first | rfl | (simp; done) | (simp; omega)), rfl⟩
        · rw [decide_eq_false (fun e => h8 e.2)] at hr
          go_wp2
          go_ret
          exact ⟨ret_bool (by rw [hr.out]; first | rfl | (simp; done) | (simp; omega)), rfl⟩
      · rw [decide_eq_false (fun e => h1 e.1)] at hr
        go_wp2
        go_ret
        exact ⟨ret_bool hr.out.symm, rfl⟩
theorem isName_any (s : ByteArray) (w : World) (hs : s.size ≤ 1000000000) : Calls Try.prog 80 #[.string s] w (RetS (.bool (nameB s)) w) := by
  go_enter Try.func80, Try.ntmps80
  go_wp2
  go_loop [3] (fun i => ∃ k : Nat, k ≤ s.size ∧ i = .int .i64 k ∧ Hid (azB s k = true)) (fun i => s.size - (intOf i).toNat)
  case atStart => exact ⟨0, Nat.zero_le _, rfl, rfl⟩
  case round =>
    obtain ⟨k, hk, rfl, haz⟩ := hrel
    by_cases hlt : k < s.size
    · obtain ⟨x, hsx, hx, hx1, hx2⟩ := str_at s k hlt
      by_cases hok : 97 ≤ x ∧ x ≤ 122
      · have haz2 := Lib.hid (show azB s (k + 1) = true by rw [azB_step hx.out, haz.out, decide_eq_true hok]; rfl)
        obtain ⟨ho1, ho2⟩ := hok
        go_wp2
        go_round
        case rel => exact ⟨k + 1, by omega, by go_num, haz2⟩
        case measure => simp [intOf]; omega
      · have hbad := Lib.hid (nameB_bad hx.out hok)
        by_cases hlo : x < 97
        · clear hok
          go_wp2
          go_ret
          exact ⟨ret_bool hbad.out.symm, rfl⟩
        · have hhi : 122 < x := by omega
          clear hok
          go_wp2
          go_ret
          exact ⟨ret_bool hbad.out.symm, rfl⟩
    · obtain rfl : k = s.size := by omega
      have hr := Lib.hid (show nameB s = decide (1 ≤ s.size ∧ s.size ≤ 8) by unfold nameB; rw [haz.out]; rfl)
      by_cases h1 : 1 ≤ s.size ∧ s.size ≤ 8
      · rw [decide_eq_true h1] at hr
        go_wp2_with (go_at_call 57; refine (inRange_yes _ _ _ _ (by omega)).mono ?_; rintro e w' ⟨rfl, rfl⟩)
        go_ret
        exact ⟨ret_bool hr.out.symm, rfl⟩
      · rw [decide_eq_false h1] at hr
        go_wp2_with (go_at_call 57; refine (inRange_no _ _ _ _ (by omega)).mono ?_; rintro e w' ⟨rfl, rfl⟩)
        go_ret
        exact ⟨ret_bool hr.out.symm, rfl⟩
theorem rises_any (a : Option Addr) (n c : Nat) (xs : List Int) (lo hi : Int) (w : World) (h : Rd .i64 w a n xs) (hn : n ≤ 1000000000) :
    Calls Try.prog 81 #[.slice a n c, .int .i64 lo, .int .i64 hi] w (Ret (.bool (rB lo hi xs n)) w) := by
  go_enter Try.func81, Try.ntmps81
  go_wp2
  go_loopw [11] (fun i wr => ∃ k j : Nat, k ≤ n ∧ i = .int .i64 (k : Int) ∧ wr = w.drewN j ∧ Hid (rB lo hi xs k = true)) (fun i _ => n - (intOf i).toNat)
  case atStart => exact ⟨0, 0, Nat.zero_le _, rfl, rfl, rfl⟩
  case round =>
    obtain ⟨k, j, hk, rfl, rfl, hall⟩ := hrel
    by_cases hlt : k < n
    · obtain ⟨b1, o1, x, rfl, -, hc1, hx, hx1, hx2⟩ := h.at_ hlt
      have hl1 : (0 : Int) ≤ (k : Int) := by omega
      have hl2 : (k : Int) < (n : Int) := by omega
      by_cases hin : lo ≤ x ∧ x ≤ hi
      · by_cases hk0 : 0 < k
        · obtain ⟨b2, o2, y, he, -, hc2, hy, hy1, hy2⟩ := h.at_ (k := k - 1) (by omega)
          injection he with he; injection he with he1 he2; subst he1 he2
          by_cases hlt2 : y < x
          · have hall2 := Lib.hid (rB_yes hall.out hx.out hin (.inr (by rw [cellN_of hy.out]; exact hlt2)))
            have hcc : decide (x ≤ y) = false := by simp; omega
            go_wp2_with (first | (go_at_call 57; refine (inRange_yes _ _ _ _ hin).mono ?_; rintro e w' ⟨rfl, rfl⟩))
            go_roundw
            case rel => exact ⟨k + 1, _, by omega, by go_num, rfl, hall2⟩
            case measure => simp [intOf]; omega
          · have hbad := Lib.hid (rB_stop (rB_no2 (lo := lo) (hi := hi) hx.out (by rintro (e | e); omega; rw [cellN_of hy.out] at e; exact hlt2 e)) n (by omega))
            have hcc : decide (x ≤ y) = true := by simp; omega
            go_wp2_with (first | (go_at_call 57; refine (inRange_yes _ _ _ _ hin).mono ?_; rintro e w' ⟨rfl, rfl⟩))
            go_ret
            exact ⟨ret_bool hbad.out.symm, (by first | exact below_drewN (Below.refl _ _) _ | exact below_drewN (below_drewN (Below.refl _ _) _) _)⟩
        · have hall2 := Lib.hid (rB_yes hall.out hx.out hin (.inl (by omega)))
          go_wp2_with (first | (go_at_call 57; refine (inRange_yes _ _ _ _ hin).mono ?_; rintro e w' ⟨rfl, rfl⟩))
          go_roundw
          case rel => exact ⟨k + 1, _, by omega, by go_num, rfl, hall2⟩
          case measure => simp [intOf]; omega
      · have hbad := Lib.hid (rB_stop (rB_no1 (lo := lo) (hi := hi) hx.out hin) n (by omega))
        go_wp2_with (first | (go_at_call 57; refine (inRange_no _ _ _ _ hin).mono ?_; rintro e w' ⟨rfl, rfl⟩))
        go_ret
        exact ⟨ret_bool hbad.out.symm, (by first | exact below_drewN (Below.refl _ _) _ | exact below_drewN (below_drewN (Below.refl _ _) _) _)⟩
    · obtain rfl : k = n := by omega
      go_wp2_with fail
      go_ret
      exact ⟨ret_bool hall.out.symm, below_drewN (Below.refl _ _) _⟩
theorem l13Rises_any (a : Option Addr) (n c : Nat) (xs : List Int) (most lo hi : Int) (w : World) (h : Rd .i64 w a n xs) (hn : n ≤ 1000000000) :
    Calls Try.prog 77 #[.slice a n c, .int .i64 most, .int .i64 lo, .int .i64 hi] w (Ret (.bool (decide (1 ≤ n ∧ (n : Int) ≤ most) && rB lo hi xs n)) w) := by
  by_cases h1 : 1 ≤ n
  · by_cases h2 : (n : Int) ≤ most
    · rw [decide_eq_true ⟨h1, h2⟩, Bool.true_and]
      go_enter Try.func77, Try.ntmps77
      go_wp2
      go_loopw [9] (fun i wr => ∃ k j : Nat, k ≤ n ∧ i = .int .i64 (k : Int) ∧ wr = w.drewN j ∧ Hid (rB lo hi xs k = true)) (fun i _ => n - (intOf i).toNat)
      case atStart => exact ⟨0, 0, Nat.zero_le _, rfl, rfl, rfl⟩
      case round =>
        obtain ⟨k, j, hk, rfl, rfl, hall⟩ := hrel
        by_cases hlt : k < n
        · obtain ⟨b1, o1, x, rfl, -, hc1, hx, hx1, hx2⟩ := h.at_ hlt
          have hl1 : (0 : Int) ≤ (k : Int) := by omega
          have hl2 : (k : Int) < (n : Int) := by omega
          by_cases hin : lo ≤ x ∧ x ≤ hi
          · by_cases hk0 : 0 < k
            · obtain ⟨b2, o2, y, he, -, hc2, hy, hy1, hy2⟩ := h.at_ (k := k - 1) (by omega)
              injection he with he; injection he with he1 he2; subst he1 he2
              by_cases hlt2 : y < x
              · have hall2 := Lib.hid (rB_yes hall.out hx.out hin (.inr (by rw [cellN_of hy.out]; exact hlt2)))
                have hcc : decide (x ≤ y) = false := by simp; omega
                go_wp2_with fail
                go_quiet (first | (go_at_call 59; refine (l01In_yes _ _ _ _ hin).mono ?_; rintro e w' ⟨rfl, rfl⟩; exact ⟨rfl, _, rfl⟩))
                go_wp2_with fail
                go_roundw
                case rel => exact ⟨k + 1, _, by omega, by go_num, rfl, hall2⟩
                case measure => simp [intOf]; omega
              · have hbad := Lib.hid (rB_stop (rB_no2 (lo := lo) (hi := hi) hx.out (by rintro (e | e); omega; rw [cellN_of hy.out] at e; exact hlt2 e)) n (by omega))
                have hcc : decide (x ≤ y) = true := by simp; omega
                go_wp2_with fail
                go_quiet (first | (go_at_call 59; refine (l01In_yes _ _ _ _ hin).mono ?_; rintro e w' ⟨rfl, rfl⟩; exact ⟨rfl, _, rfl⟩))
                go_wp2_with fail
                go_ret
                exact ⟨ret_bool hbad.out.symm, (by first | exact below_drewN (Below.refl _ _) _ | exact below_drewN (below_drewN (Below.refl _ _) _) _)⟩
            · have hall2 := Lib.hid (rB_yes hall.out hx.out hin (.inl (by omega)))
              go_wp2_with fail
              go_quiet (first | (go_at_call 59; refine (l01In_yes _ _ _ _ hin).mono ?_; rintro e w' ⟨rfl, rfl⟩; exact ⟨rfl, _, rfl⟩))
              go_wp2_with fail
              go_roundw
              case rel => exact ⟨k + 1, _, by omega, by go_num, rfl, hall2⟩
              case measure => simp [intOf]; omega
          · have hbad := Lib.hid (rB_stop (rB_no1 (lo := lo) (hi := hi) hx.out hin) n (by omega))
            go_wp2_with fail
            go_quiet (first | (go_at_call 59; refine (l01In_no _ _ _ _ hin).mono ?_; rintro e w' ⟨rfl, rfl⟩; exact ⟨rfl, _, rfl⟩))
            go_wp2_with fail
            go_ret
            exact ⟨ret_bool hbad.out.symm, (by first | exact below_drewN (Below.refl _ _) _ | exact below_drewN (below_drewN (Below.refl _ _) _) _)⟩
        · obtain rfl : k = n := by omega
          go_wp2_with fail
          go_ret
          exact ⟨ret_bool hall.out.symm, below_drewN (Below.refl _ _) _⟩
    · rw [decide_eq_false (fun e => h2 e.2), Bool.false_and]
      go_enter Try.func77, Try.ntmps77
      go_wp2
      go_ret
      exact ⟨rfl, Below.refl _ _⟩
  · rw [decide_eq_false (fun e => h1 e.1), Bool.false_and]
    go_enter Try.func77, Try.ntmps77
    go_wp2
    go_ret
    exact ⟨rfl, Below.refl _ _⟩
end Go.Proofs.Ytckmenjbblgiiaa
