/-
  Contracts of the reference's functions for segments: lengths, characters.
  Conditions: modes that write text.
-/
import Derived.Test.YtnajjofaijpciaaSegA
import Derived.Test.YtnajjofaijpciaaBits
set_option linter.unusedVariables false
namespace Go.Proofs.Ytnajjofaijpciaa
open Go.RowKit Go.G8
def gLen (m : Int) (n : Nat) : Int := 11 + (n : Int) / gSize m * gWidth m (gSize m) + (if 0 < (n : Int) % gSize m then gWidth m ((n : Int) % gSize m) else 0)
set_option maxHeartbeats 1000000 in
theorem l09Length_any (m : Int) (n : Nat) (w : World) (h : 1 ≤ m ∧ m ≤ 4) (hn : 1 ≤ n ∧ n ≤ 255) : Calls Try.prog 54 #[.int .i64 m, .int .i64 n] w (Ret (.int .i64 (gLen m n)) w) := by
  obtain ⟨hn1, hn2⟩ := hn
  have HG := Lib.hid (fun w => l09Group_any m w h)
  have HW := Lib.hid (fun n w hn => l09Width_any m n w h hn)
  have h0 := h
  clear h
  rcases (show m = 1 ∨ m = 2 ∨ m = 3 ∨ m = 4 by have := h0; omega) with rfl | rfl | rfl | rfl
  · obtain ⟨q, hq⟩ : ∃ q, n / 3 = q := ⟨_, rfl⟩
    obtain ⟨r, hr⟩ : ∃ r, n % 3 = r := ⟨_, rfl⟩
    have hr3 : r < 3 := by omega
    have hq3 : q ≤ 255 := by omega
    have t1 : (n : Int).tdiv 3 = (q : Int) := by rw [Int.tdiv_eq_ediv_of_nonneg (by omega)]; omega
    have t2 : (n : Int).tmod 3 = (r : Int) := by rw [Int.tmod_eq_emod_of_nonneg (by omega)]; omega
    have u1 : IntKind.i64.wrap (q : Int) = (q : Int) := IntWalk.i64_in _ (by omega)
    have u2 : IntKind.i64.wrap ((q : Int) * 10) = (q : Int) * 10 := IntWalk.i64_in _ (by omega)
    have u3 : IntKind.i64.wrap (11 + (q : Int) * 10) = 11 + (q : Int) * 10 := IntWalk.i64_in _ (by omega)
    have hg : gLen 1 n = 11 + (q : Int) * 10 + (if 0 < (r : Int) then gWidth 1 r else 0) := by
      have e1 : (n : Int) / 3 = q := by omega
      have e2 : (n : Int) % 3 = r := by omega
      show 11 + (n : Int) / 3 * 10 + (if 0 < (n : Int) % 3 then gWidth 1 ((n : Int) % 3) else 0) = _
      rw [e1, e2]
    rw [hg]
    have HWs := Lib.hid (show ∀ w, Calls Try.prog 56 #[.int .i64 1, .int .i64 3] w (Ret (.int .i64 10) w) from fun w => HW.out 3 w (by decide))
    have HGs := Lib.hid (show ∀ w, Calls Try.prog 55 #[.int .i64 1] w (RetS (.tuple #[.int .i64 3, .int .i64 10]) w) from fun w => HG.out w)
    clear HG
    clear h0 hq hr hg
    have hc : r = 0 ∨ r = 1 ∨ r = 2 := by omega
    clear hr3
    rcases hc with rfl | rfl | rfl
    · skip
      clear HW
      go_enter Try.func54, Try.ntmps54
      go_wp2_with fail
      refine (HGs.out _).mono ?_
      rintro e w1 ⟨rfl, rfl⟩
      go_wp2_with fail
      go_region_held3 (fun _ => True) (first | trivial) (first | (go_at_call 56; refine (HWs.out _).mono ?_; rintro e w2 ⟨rfl, hb2⟩))
      go_wp2_with fail
      go_ret
      exact ⟨ret_int (by simp), bt (Below.refl _ _).drew hb2⟩
    · have HWr := Lib.hid (show ∀ w, Calls Try.prog 56 #[.int .i64 1, .int .i64 1] w (Ret (.int .i64 4) w) from fun w => HW.out 1 w (by decide))
      clear HW
      go_enter Try.func54, Try.ntmps54
      go_wp2_with fail
      refine (HGs.out _).mono ?_
      rintro e w1 ⟨rfl, rfl⟩
      go_wp2_with fail
      go_region_held3 (fun _ => True) (first | trivial) (first | (go_at_call 56; refine (HWs.out _).mono ?_; rintro e w2 ⟨rfl, hb2⟩))
      go_wp2_with fail
      refine (HWr.out _).mono ?_
      rintro e w3 ⟨rfl, hb3⟩
      go_wp2_with fail
      go_ret
      exact ⟨rfl, bt (bt (Below.refl _ _).drew hb2) hb3⟩
    · have HWr := Lib.hid (show ∀ w, Calls Try.prog 56 #[.int .i64 1, .int .i64 2] w (Ret (.int .i64 7) w) from fun w => HW.out 2 w (by decide))
      clear HW
      go_enter Try.func54, Try.ntmps54
      go_wp2_with fail
      refine (HGs.out _).mono ?_
      rintro e w1 ⟨rfl, rfl⟩
      go_wp2_with fail
      go_region_held3 (fun _ => True) (first | trivial) (first | (go_at_call 56; refine (HWs.out _).mono ?_; rintro e w2 ⟨rfl, hb2⟩))
      go_wp2_with fail
      refine (HWr.out _).mono ?_
      rintro e w3 ⟨rfl, hb3⟩
      go_wp2_with fail
      go_ret
      exact ⟨rfl, bt (bt (Below.refl _ _).drew hb2) hb3⟩
  · obtain ⟨q, hq⟩ : ∃ q, n / 2 = q := ⟨_, rfl⟩
    obtain ⟨r, hr⟩ : ∃ r, n % 2 = r := ⟨_, rfl⟩
    have hr3 : r < 2 := by omega
    have hq3 : q ≤ 255 := by omega
    have t1 : (n : Int).tdiv 2 = (q : Int) := by rw [Int.tdiv_eq_ediv_of_nonneg (by omega)]; omega
    have t2 : (n : Int).tmod 2 = (r : Int) := by rw [Int.tmod_eq_emod_of_nonneg (by omega)]; omega
    have u1 : IntKind.i64.wrap (q : Int) = (q : Int) := IntWalk.i64_in _ (by omega)
    have u2 : IntKind.i64.wrap ((q : Int) * 11) = (q : Int) * 11 := IntWalk.i64_in _ (by omega)
    have u3 : IntKind.i64.wrap (11 + (q : Int) * 11) = 11 + (q : Int) * 11 := IntWalk.i64_in _ (by omega)
    have hg : gLen 2 n = 11 + (q : Int) * 11 + (if 0 < (r : Int) then gWidth 2 r else 0) := by
      have e1 : (n : Int) / 2 = q := by omega
      have e2 : (n : Int) % 2 = r := by omega
      show 11 + (n : Int) / 2 * 11 + (if 0 < (n : Int) % 2 then gWidth 2 ((n : Int) % 2) else 0) = _
      rw [e1, e2]
    rw [hg]
    have HWs := Lib.hid (show ∀ w, Calls Try.prog 56 #[.int .i64 2, .int .i64 2] w (Ret (.int .i64 11) w) from fun w => HW.out 2 w (by decide))
    have HGs := Lib.hid (show ∀ w, Calls Try.prog 55 #[.int .i64 2] w (RetS (.tuple #[.int .i64 2, .int .i64 45]) w) from fun w => HG.out w)
    clear HG
    clear h0 hq hr hg
    have hc : r = 0 ∨ r = 1 := by omega
    clear hr3
    rcases hc with rfl | rfl
    · skip
      clear HW
      go_enter Try.func54, Try.ntmps54
      go_wp2_with fail
      refine (HGs.out _).mono ?_
      rintro e w1 ⟨rfl, rfl⟩
      go_wp2_with fail
      go_region_held3 (fun _ => True) (first | trivial) (first | (go_at_call 56; refine (HWs.out _).mono ?_; rintro e w2 ⟨rfl, hb2⟩))
      go_wp2_with fail
      go_ret
      exact ⟨ret_int (by simp), bt (Below.refl _ _).drew hb2⟩
    · have HWr := Lib.hid (show ∀ w, Calls Try.prog 56 #[.int .i64 2, .int .i64 1] w (Ret (.int .i64 6) w) from fun w => HW.out 1 w (by decide))
      clear HW
      go_enter Try.func54, Try.ntmps54
      go_wp2_with fail
      refine (HGs.out _).mono ?_
      rintro e w1 ⟨rfl, rfl⟩
      go_wp2_with fail
      go_region_held3 (fun _ => True) (first | trivial) (first | (go_at_call 56; refine (HWs.out _).mono ?_; rintro e w2 ⟨rfl, hb2⟩))
      go_wp2_with fail
      refine (HWr.out _).mono ?_
      rintro e w3 ⟨rfl, hb3⟩
      go_wp2_with fail
      go_ret
      exact ⟨rfl, bt (bt (Below.refl _ _).drew hb2) hb3⟩
  · obtain ⟨q, hq⟩ : ∃ q, n / 1 = q := ⟨_, rfl⟩
    obtain ⟨r, hr⟩ : ∃ r, n % 1 = r := ⟨_, rfl⟩
    have hr3 : r < 1 := by omega
    have hq3 : q ≤ 255 := by omega
    have t1 : (n : Int).tdiv 1 = (q : Int) := by rw [Int.tdiv_eq_ediv_of_nonneg (by omega)]; omega
    have t2 : (n : Int).tmod 1 = (r : Int) := by rw [Int.tmod_eq_emod_of_nonneg (by omega)]; omega
    have u1 : IntKind.i64.wrap (q : Int) = (q : Int) := IntWalk.i64_in _ (by omega)
    have u2 : IntKind.i64.wrap ((q : Int) * 5) = (q : Int) * 5 := IntWalk.i64_in _ (by omega)
    have u3 : IntKind.i64.wrap (11 + (q : Int) * 5) = 11 + (q : Int) * 5 := IntWalk.i64_in _ (by omega)
    have hg : gLen 3 n = 11 + (q : Int) * 5 + (if 0 < (r : Int) then gWidth 3 r else 0) := by
      have e1 : (n : Int) / 1 = q := by omega
      have e2 : (n : Int) % 1 = r := by omega
      show 11 + (n : Int) / 1 * 5 + (if 0 < (n : Int) % 1 then gWidth 3 ((n : Int) % 1) else 0) = _
      rw [e1, e2]
    rw [hg]
    have HWs := Lib.hid (show ∀ w, Calls Try.prog 56 #[.int .i64 3, .int .i64 1] w (Ret (.int .i64 5) w) from fun w => HW.out 1 w (by decide))
    have HGs := Lib.hid (show ∀ w, Calls Try.prog 55 #[.int .i64 3] w (RetS (.tuple #[.int .i64 1, .int .i64 256]) w) from fun w => HG.out w)
    clear HG
    clear h0 hq hr hg
    have hc : r = 0 := by omega
    clear hr3
    subst hc
    · skip
      clear HW
      go_enter Try.func54, Try.ntmps54
      go_wp2_with fail
      refine (HGs.out _).mono ?_
      rintro e w1 ⟨rfl, rfl⟩
      go_wp2_with fail
      go_region_held3 (fun _ => True) (first | trivial) (first | (go_at_call 56; refine (HWs.out _).mono ?_; rintro e w2 ⟨rfl, hb2⟩))
      go_wp2_with fail
      go_ret
      exact ⟨ret_int (by simp), bt (Below.refl _ _).drew hb2⟩
  · obtain ⟨q, hq⟩ : ∃ q, n / 1 = q := ⟨_, rfl⟩
    obtain ⟨r, hr⟩ : ∃ r, n % 1 = r := ⟨_, rfl⟩
    have hr3 : r < 1 := by omega
    have hq3 : q ≤ 255 := by omega
    have t1 : (n : Int).tdiv 1 = (q : Int) := by rw [Int.tdiv_eq_ediv_of_nonneg (by omega)]; omega
    have t2 : (n : Int).tmod 1 = (r : Int) := by rw [Int.tmod_eq_emod_of_nonneg (by omega)]; omega
    have u1 : IntKind.i64.wrap (q : Int) = (q : Int) := IntWalk.i64_in _ (by omega)
    have u2 : IntKind.i64.wrap ((q : Int) * 8) = (q : Int) * 8 := IntWalk.i64_in _ (by omega)
    have u3 : IntKind.i64.wrap (11 + (q : Int) * 8) = 11 + (q : Int) * 8 := IntWalk.i64_in _ (by omega)
    have hg : gLen 4 n = 11 + (q : Int) * 8 + (if 0 < (r : Int) then gWidth 4 r else 0) := by
      have e1 : (n : Int) / 1 = q := by omega
      have e2 : (n : Int) % 1 = r := by omega
      show 11 + (n : Int) / 1 * 8 + (if 0 < (n : Int) % 1 then gWidth 4 ((n : Int) % 1) else 0) = _
      rw [e1, e2]
    rw [hg]
    have HWs := Lib.hid (show ∀ w, Calls Try.prog 56 #[.int .i64 4, .int .i64 1] w (Ret (.int .i64 8) w) from fun w => HW.out 1 w (by decide))
    have HGs := Lib.hid (show ∀ w, Calls Try.prog 55 #[.int .i64 4] w (RetS (.tuple #[.int .i64 1, .int .i64 256]) w) from fun w => HG.out w)
    clear HG
    clear h0 hq hr hg
    have hc : r = 0 := by omega
    clear hr3
    subst hc
    · skip
      clear HW
      go_enter Try.func54, Try.ntmps54
      go_wp2_with fail
      refine (HGs.out _).mono ?_
      rintro e w1 ⟨rfl, rfl⟩
      go_wp2_with fail
      go_region_held3 (fun _ => True) (first | trivial) (first | (go_at_call 56; refine (HWs.out _).mono ?_; rintro e w2 ⟨rfl, hb2⟩))
      go_wp2_with fail
      go_ret
      exact ⟨ret_int (by simp), bt (Below.refl _ _).drew hb2⟩
end Go.Proofs.Ytnajjofaijpciaa
