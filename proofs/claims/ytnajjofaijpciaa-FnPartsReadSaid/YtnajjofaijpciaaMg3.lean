/-
  Texts of the proof, one behind the other: each bears its own heading.
  Conditions: as the headings say.
-/
import Derived.Test.YtnajjofaijpciaaMg2
import Derived.Test.YtnajjofaijpciaaProg
import Derived.Test.YtnajjofaijpciaaMg1
/-
  Contracts of the reference's functions for segments: lengths, characters.
  Conditions: modes that write text.
-/
set_option linter.unusedVariables false
namespace Go.Proofs.Ytnajjofaijpciaa
open Go.RowKit Go.G8
def gLen (m : Int) (n : Nat) : Int := 11 + (n : Int) / gSize m * gWidth m (gSize m) + (if 0 < (n : Int) % gSize m then gWidth m ((n : Int) % gSize m) else 0)
set_option maxHeartbeats 1000000 in
theorem l09Length_any (m : Int) (n : Nat) (w : World) (h : 1 ≤ m ∧ m ≤ 4) (hn : 1 ≤ n ∧ n ≤ 255) : Calls Try.prog 54 #[.int .i64 m, .int .i64 n] w (Ret (.int .i64 (gLen m n)) w) := by
  obtain ⟨hn1, hn2⟩ := hn
  have HG := Lib.hid (fun w => l09Group_any m w h)
  have HW := Lib.hid (fun n w hn => l09Width_any m n w h hn)
  have h0 := h
  clear h
  rcases (show m = 1 ∨ m = 2 ∨ m = 3 ∨ m = 4 by have := h0; omega) with rfl | rfl | rfl | rfl
  · obtain ⟨q, hq⟩ : ∃ q, n / 3 = q := ⟨_, rfl⟩
    obtain ⟨r, hr⟩ : ∃ r, n % 3 = r := ⟨_, rfl⟩
    have hr3 : r < 3 := by omega
    have hq3 : q ≤ 255 := by omega
    have t1 : (n : Int).tdiv 3 = (q : Int) := by rw [Int.tdiv_eq_ediv_of_nonneg (by omega)]; omega
    have t2 : (n : Int).tmod 3 = (r : Int) := by rw [Int.tmod_eq_emod_of_nonneg (by omega)]; omega
    have u1 : IntKind.i64.wrap (q : Int) = (q : Int) := IntWalk.i64_in _ (by omega)
    have u2 : IntKind.i64.wrap ((q : Int) * 10) = (q : Int) * 10 := IntWalk.i64_in _ (by omega)
    have u3 : IntKind.i64.wrap (11 + (q : Int) * 10) = 11 + (q : Int) * 10 := IntWalk.i64_in _ (by omega)
    have hg : gLen 1 n = 11 + (q : Int) * 10 + (if 0 < (r : Int) then gWidth 1 r else 0) := by
      have e1 : (n : Int) / 3 = q := by omega
      have e2 : (n : Int) % 3 = r := by omega
      show 11 + (n : Int) / 3 * 10 + (if 0 < (n : Int) % 3 then gWidth 1 ((n : Int) % 3) else 0) = _
      rw [e1, e2]
    rw [hg]
    have HWs := Lib.hid (show ∀ w, Calls Try.prog 56 #[.int .i64 1, .int .i64 3] w (Ret (.int .i64 10) w) from fun w => HW.out 3 w (by decide))
    have HGs := Lib.hid (show ∀ w, Calls Try.prog 55 #[.int .i64 1] w (RetS (.tuple #[.int .i64 3, .int .i64 10]) w) from fun w => HG.out w)
    clear HG
    clear h0 hq hr hg
    have hc : r = 0 ∨ r = 1 ∨ r = 2 := by omega
    clear hr3
    rcases hc with rfl | rfl | rfl
    · skip
      clear HW
      go_enter Try.func54, Try.ntmps54
      go_wp2_with fail
      refine (HGs.out _).mono ?_
      rintro e w1 ⟨rfl, rfl⟩
      go_wp2_with fail
      go_region_held3 (fun _ => True) (first | trivial) (first | (go_at_call 56; refine (HWs.out _).mono ?_; rintro e w2 ⟨rfl, hb2⟩))
      go_wp2_with fail
      go_ret
      exact ⟨ret_int (by simp), bt (Below.refl _ _).drew hb2⟩
    · have HWr := Lib.hid (show ∀ w, Calls Try.prog 56 #[.int .i64 1, .int .i64 1] w (Ret (.int .i64 4) w) from fun w => HW.out 1 w (by decide))
      clear HW
      go_enter Try.func54, Try.ntmps54
      go_wp2_with fail
      refine (HGs.out _).mono ?_
      rintro e w1 ⟨rfl, rfl⟩
      go_wp2_with fail
      go_region_held3 (fun _ => True) (first | trivial) (first | (go_at_call 56; refine (HWs.out _).mono ?_; rintro e w2 ⟨rfl, hb2⟩))
      go_wp2_with fail
      refine (HWr.out _).mono ?_
      rintro e w3 ⟨rfl, hb3⟩
      go_wp2_with fail
      go_ret
      exact ⟨rfl, bt (bt (Below.refl _ _).drew hb2) hb3⟩
    · have HWr := Lib.hid (show ∀ w, Calls Try.prog 56 #[.int .i64 1, .int .i64 2] w (Ret (.int .i64 7) w) from fun w => HW.out 2 w (by decide))
      clear HW
      go_enter Try.func54, Try.ntmps54
      go_wp2_with fail
      refine (HGs.out _).mono ?_
      rintro e w1 ⟨rfl, rfl⟩
      go_wp2_with fail
      go_region_held3 (fun _ => True) (first | trivial) (first | (go_at_call 56; refine (HWs.out _).mono ?_; rintro e w2 ⟨rfl, hb2⟩))
      go_wp2_with fail
      refine (HWr.out _).mono ?_
      rintro e w3 ⟨rfl, hb3⟩
      go_wp2_with fail
      go_ret
      exact ⟨rfl, bt (bt (Below.refl _ _).drew hb2) hb3⟩
  · obtain ⟨q, hq⟩ : ∃ q, n / 2 = q := ⟨_, rfl⟩
    obtain ⟨r, hr⟩ : ∃ r, n % 2 = r := ⟨_, rfl⟩
    have hr3 : r < 2 := by omega
    have hq3 : q ≤ 255 := by omega
    have t1 : (n : Int).tdiv 2 = (q : Int) := by rw [Int.tdiv_eq_ediv_of_nonneg (by omega)]; omega
    have t2 : (n : Int).tmod 2 = (r : Int) := by rw [Int.tmod_eq_emod_of_nonneg (by omega)]; omega
    have u1 : IntKind.i64.wrap (q : Int) = (q : Int) := IntWalk.i64_in _ (by omega)
    have u2 : IntKind.i64.wrap ((q : Int) * 11) = (q : Int) * 11 := IntWalk.i64_in _ (by omega)
    have u3 : IntKind.i64.wrap (11 + (q : Int) * 11) = 11 + (q : Int) * 11 := IntWalk.i64_in _ (by omega)
    have hg : gLen 2 n = 11 + (q : Int) * 11 + (if 0 < (r : Int) then gWidth 2 r else 0) := by
      have e1 : (n : Int) / 2 = q := by omega
      have e2 : (n : Int) % 2 = r := by omega
      show 11 + (n : Int) / 2 * 11 + (if 0 < (n : Int) % 2 then gWidth 2 ((n : Int) % 2) else 0) = _
      rw [e1, e2]
    rw [hg]
    have HWs := Lib.hid (show ∀ w, Calls Try.prog 56 #[.int .i64 2, .int .i64 2] w (Ret (.int .i64 11) w) from fun w => HW.out 2 w (by decide))
    have HGs := Lib.hid (show ∀ w, Calls Try.prog 55 #[.int .i64 2] w (RetS (.tuple #[.int .i64 2, .int .i64 45]) w) from fun w => HG.out w)
    clear HG
    clear h0 hq hr hg
    have hc : r = 0 ∨ r = 1 := by omega
    clear hr3
    rcases hc with rfl | rfl
    · skip
      clear HW
      go_enter Try.func54, Try.ntmps54
      go_wp2_with fail
      refine (HGs.out _).mono ?_
      rintro e w1 ⟨rfl, rfl⟩
      go_wp2_with fail
      go_region_held3 (fun _ => True) (first | trivial) (first | (go_at_call 56; refine (HWs.out _).mono ?_; rintro e w2 ⟨rfl, hb2⟩))
      go_wp2_with fail
      go_ret
      exact ⟨ret_int (by simp), bt (Below.refl _ _).drew hb2⟩
    · have HWr := Lib.hid (show ∀ w, Calls Try.prog 56 #[.int .i64 2, .int .i64 1] w (Ret (.int .i64 6) w) from fun w => HW.out 1 w (by decide))
      clear HW
      go_enter Try.func54, Try.ntmps54
      go_wp2_with fail
      refine (HGs.out _).mono ?_
      rintro e w1 ⟨rfl, rfl⟩
      go_wp2_with fail
      go_region_held3 (fun _ => True) (first | trivial) (first | (go_at_call 56; refine (HWs.out _).mono ?_; rintro e w2 ⟨rfl, hb2⟩))
      go_wp2_with fail
      refine (HWr.out _).mono ?_
      rintro e w3 ⟨rfl, hb3⟩
      go_wp2_with fail
      go_ret
      exact ⟨rfl, bt (bt (Below.refl _ _).drew hb2) hb3⟩
  · obtain ⟨q, hq⟩ : ∃ q, n / 1 = q := ⟨_, rfl⟩
    obtain ⟨r, hr⟩ : ∃ r, n % 1 = r := ⟨_, rfl⟩
    have hr3 : r < 1 := by omega
    have hq3 : q ≤ 255 := by omega
    have t1 : (n : Int).tdiv 1 = (q : Int) := by rw [Int.tdiv_eq_ediv_of_nonneg (by omega)]; omega
    have t2 : (n : Int).tmod 1 = (r : Int) := by rw [Int.tmod_eq_emod_of_nonneg (by omega)]; omega
    have u1 : IntKind.i64.wrap (q : Int) = (q : Int) := IntWalk.i64_in _ (by omega)
    have u2 : IntKind.i64.wrap ((q : Int) * 5) = (q : Int) * 5 := IntWalk.i64_in _ (by omega)
    have u3 : IntKind.i64.wrap (11 + (q : Int) * 5) = 11 + (q : Int) * 5 := IntWalk.i64_in _ (by omega)
    have hg : gLen 3 n = 11 + (q : Int) * 5 + (if 0 < (r : Int) then gWidth 3 r else 0) := by
      have e1 : (n : Int) / 1 = q := by omega
      have e2 : (n : Int) % 1 = r := by omega
      show 11 + (n : Int) / 1 * 5 + (if 0 < (n : Int) % 1 then gWidth 3 ((n : Int) % 1) else 0) = _
      rw [e1, e2]
    rw [hg]
    have HWs := Lib.hid (show ∀ w, Calls Try.prog 56 #[.int .i64 3, .int .i64 1] w (Ret (.int .i64 5) w) from fun w => HW.out 1 w (by decide))
    have HGs := Lib.hid (show ∀ w, Calls Try.prog 55 #[.int .i64 3] w (RetS (.tuple #[.int .i64 1, .int .i64 256]) w) from fun w => HG.out w)
    clear HG
    clear h0 hq hr hg
    have hc : r = 0 := by omega
    clear hr3
    subst hc
    · skip
      clear HW
      go_enter Try.func54, Try.ntmps54
      go_wp2_with fail
      refine (HGs.out _).mono ?_
      rintro e w1 ⟨rfl, rfl⟩
      go_wp2_with fail
      go_region_held3 (fun _ => True) (first | trivial) (first | (go_at_call 56; refine (HWs.out _).mono ?_; rintro e w2 ⟨rfl, hb2⟩))
      go_wp2_with fail
      go_ret
      exact ⟨ret_int (by simp), bt (Below.refl _ _).drew hb2⟩
  · obtain ⟨q, hq⟩ : ∃ q, n / 1 = q := ⟨_, rfl⟩
    obtain ⟨r, hr⟩ : ∃ r, n % 1 = r := ⟨_, rfl⟩
    have hr3 : r < 1 := by omega
    have hq3 : q ≤ 255 := by omega
    have t1 : (n : Int).tdiv 1 = (q : Int) := by rw [Int.tdiv_eq_ediv_of_nonneg (by omega)]; omega
    have t2 : (n : Int).tmod 1 = (r : Int) := by rw [Int.tmod_eq_emod_of_nonneg (by omega)]; omega
    have u1 : IntKind.i64.wrap (q : Int) = (q : Int) := IntWalk.i64_in _ (by omega)
    have u2 : IntKind.i64.wrap ((q : Int) * 8) = (q : Int) * 8 := IntWalk.i64_in _ (by omega)
    have u3 : IntKind.i64.wrap (11 + (q : Int) * 8) = 11 + (q : Int) * 8 := IntWalk.i64_in _ (by omega)
    have hg : gLen 4 n = 11 + (q : Int) * 8 + (if 0 < (r : Int) then gWidth 4 r else 0) := by
      have e1 : (n : Int) / 1 = q := by omega
      have e2 : (n : Int) % 1 = r := by omega
      show 11 + (n : Int) / 1 * 8 + (if 0 < (n : Int) % 1 then gWidth 4 ((n : Int) % 1) else 0) = _
      rw [e1, e2]
    rw [hg]
    have HWs := Lib.hid (show ∀ w, Calls Try.prog 56 #[.int .i64 4, .int .i64 1] w (Ret (.int .i64 8) w) from fun w => HW.out 1 w (by decide))
    have HGs := Lib.hid (show ∀ w, Calls Try.prog 55 #[.int .i64 4] w (RetS (.tuple #[.int .i64 1, .int .i64 256]) w) from fun w => HG.out w)
    clear HG
    clear h0 hq hr hg
    have hc : r = 0 := by omega
    clear hr3
    subst hc
    · skip
      clear HW
      go_enter Try.func54, Try.ntmps54
      go_wp2_with fail
      refine (HGs.out _).mono ?_
      rintro e w1 ⟨rfl, rfl⟩
      go_wp2_with fail
      go_region_held3 (fun _ => True) (first | trivial) (first | (go_at_call 56; refine (HWs.out _).mono ?_; rintro e w2 ⟨rfl, hb2⟩))
      go_wp2_with fail
      go_ret
      exact ⟨ret_int (by simp), bt (Below.refl _ _).drew hb2⟩
end Go.Proofs.Ytnajjofaijpciaa
/-
  Contracts of the two tests whether a number lies in a range.
  Conditions: none.
-/
set_option linter.unusedVariables false
namespace Go.Proofs.Ytnajjofaijpciaa
open Go.RowKit Go.G8
theorem l01In_yes (n lo hi : Int) (w : World) (h : lo ≤ n ∧ n ≤ hi) : Calls Try.prog 30 #[.int .i64 n, .int .i64 lo, .int .i64 hi] w (RetS (.bool true) w) := by
  obtain ⟨h1, h2⟩ := h
  go_enter Try.func30, Try.ntmps30
  go_wp2
  go_ret
  exact ⟨rfl, rfl⟩
theorem l01In_no (n lo hi : Int) (w : World) (h : ¬ (lo ≤ n ∧ n ≤ hi)) : Calls Try.prog 30 #[.int .i64 n, .int .i64 lo, .int .i64 hi] w (RetS (.bool false) w) := by
  by_cases h1 : lo ≤ n
  · have h2 : hi < n := by omega
    have hd : decide (n ≤ hi) = false := by simp; omega
    clear h
    go_enter Try.func30, Try.ntmps30
    go_wp2
    go_ret
    exact ⟨rfl, rfl⟩
  · have h2 : n < lo := by omega
    clear h h1
    go_enter Try.func30, Try.ntmps30
    go_wp2
    go_ret
    exact ⟨rfl, rfl⟩
theorem inRange_yes (n lo hi : Int) (w : World) (h : lo ≤ n ∧ n ≤ hi) : Calls Try.prog 33 #[.int .i64 n, .int .i64 lo, .int .i64 hi] w (RetS (.bool true) w) := by
  obtain ⟨h1, h2⟩ := h
  go_enter Try.func33, Try.ntmps33
  go_wp2
  go_ret
  exact ⟨rfl, rfl⟩
theorem inRange_no (n lo hi : Int) (w : World) (h : ¬ (lo ≤ n ∧ n ≤ hi)) : Calls Try.prog 33 #[.int .i64 n, .int .i64 lo, .int .i64 hi] w (RetS (.bool false) w) := by
  by_cases h1 : lo ≤ n
  · have h2 : hi < n := by omega
    have hd : decide (n ≤ hi) = false := by simp; omega
    clear h
    go_enter Try.func33, Try.ntmps33
    go_wp2
    go_ret
    exact ⟨rfl, rfl⟩
  · have h2 : n < lo := by omega
    clear h h1
    go_enter Try.func33, Try.ntmps33
    go_wp2
    go_ret
    exact ⟨rfl, rfl⟩
end Go.Proofs.Ytnajjofaijpciaa
/-
  The block in which the program keeps the arithmetic of a field: a mark, a size, a table of powers, a table of logarithms; no program is named here.
  Conditions: none.
-/
set_option linter.unusedVariables false
namespace Go.G8
open Go.RowKit

/-- The cells of a field's arithmetic. -/
structure TabCells (cs : Array Value) (b : Bool) (size : Int) (E L : Nat → Int) : Prop where
  n : cs.size = 2044
  mark : cs[0]? = some (.bool b)
  sz : cs[1]? = some (.int .i64 size)
  ex : ∀ i, i < 1021 → cs[2 + i]? = some (.int .i64 (E i))
  lo : ∀ i, i < 1021 → cs[1023 + i]? = some (.int .i64 (L i))
/-- Block g of w is a field's arithmetic. -/
def Tab (T : TypeId) (w : World) (g : Nat) (b : Bool) (size : Int) (E L : Nat → Int) : Prop := ∃ cs, w.heap[g]? = some (.cells cs T (0, 0)) ∧ TabCells cs b size E L

section
variable {T : TypeId} {w w' : World} {g : Nat} {b : Bool} {size : Int} {E L : Nat → Int}
theorem Tab.lt (h : Tab T w g b size E L) : g < w.heap.size := by
  obtain ⟨cs, h, _⟩ := h
  rcases Nat.lt_or_ge g w.heap.size with hlt | hge
  · exact hlt
  · rw [Array.getElem?_eq_none hge] at h; cases h
theorem Tab.mark_ (h : Tab T w g b size E L) : w.cell? ⟨g, 0, none⟩ = some (.bool b) := by
  obtain ⟨cs, h, t⟩ := h
  rw [cell_of_row w g 0 cs T (0, 0) h, t.mark]
theorem Tab.size_ (h : Tab T w g b size E L) : w.cell? ⟨g, 1, none⟩ = some (.int .i64 size) := by
  obtain ⟨cs, h, t⟩ := h
  rw [cell_of_row w g 1 cs T (0, 0) h, t.sz]
theorem Tab.exp_ (h : Tab T w g b size E L) {i : Nat} (hi : i < 1021) : w.cell? ⟨g, 2 + i, none⟩ = some (.int .i64 (E i)) := by
  obtain ⟨cs, h, t⟩ := h
  rw [cell_of_row w g _ cs T (0, 0) h, t.ex i hi]
theorem Tab.log_ (h : Tab T w g b size E L) {i : Nat} (hi : i < 1021) : w.cell? ⟨g, 1023 + i, none⟩ = some (.int .i64 (L i)) := by
  obtain ⟨cs, h, t⟩ := h
  rw [cell_of_row w g _ cs T (0, 0) h, t.lo i hi]
theorem Tab.free (h : Tab T w g b size E L) (i : Nat) : w.frozen? ⟨g, i, none⟩ = false := by
  obtain ⟨cs, h, t⟩ := h
  exact frozen_of_row w g i cs T h
theorem Tab.below {B : Nat} (h : Tab T w g b size E L) (hb : Below B w w') (hg : g < B) : Tab T w' g b size E L := by
  obtain ⟨cs, h, t⟩ := h
  exact ⟨cs, (hb.block g hg).trans h, t⟩
theorem Tab.to (h : Tab T w g b size E L) (hb : Below w.heap.size w w') : Tab T w' g b size E L := h.below hb h.lt
theorem set_blk {cs : Array Value} (h : w.heap[g]? = some (.cells cs T (0, 0))) (i : Nat) (u : Value) : (w.setCell ⟨g, i, none⟩ u).heap[g]? = some (.cells (cs.setIfInBounds i u) T (0, 0)) := by
  simp [World.setCell, Array.getElem?_modify, h]
theorem Tab.setE (h : Tab T w g b size E L) {n : Nat} (hn : n < 1021) (x : Int) : Tab T (w.setCell ⟨g, 2 + n, none⟩ (.int .i64 x)) g b size (fun i => if i = n then x else E i) L := by
  obtain ⟨cs, h, t⟩ := h
  have hl := t.n
  refine ⟨_, set_blk h _ _, ⟨by simpa using t.n, ?_, ?_, fun i hi => ?_, fun i hi => ?_⟩⟩
  · rw [Array.getElem?_setIfInBounds, if_neg (by omega)]; exact t.mark
  · rw [Array.getElem?_setIfInBounds, if_neg (by omega)]; exact t.sz
  · rw [Array.getElem?_setIfInBounds]
    by_cases e : i = n
    · subst e; rw [if_pos rfl, if_pos (by omega)]; simp
    · rw [if_neg (by omega)]; simp only [if_neg e]; exact t.ex i hi
  · rw [Array.getElem?_setIfInBounds, if_neg (by omega)]; exact t.lo i hi
theorem Tab.setL (h : Tab T w g b size E L) {n : Nat} (hn : n < 1021) (x : Int) : Tab T (w.setCell ⟨g, 1023 + n, none⟩ (.int .i64 x)) g b size E (fun i => if i = n then x else L i) := by
  obtain ⟨cs, h, t⟩ := h
  have hl := t.n
  refine ⟨_, set_blk h _ _, ⟨by simpa using t.n, ?_, ?_, fun i hi => ?_, fun i hi => ?_⟩⟩
  · rw [Array.getElem?_setIfInBounds, if_neg (by omega)]; exact t.mark
  · rw [Array.getElem?_setIfInBounds, if_neg (by omega)]; exact t.sz
  · rw [Array.getElem?_setIfInBounds, if_neg (by omega)]; exact t.ex i hi
  · rw [Array.getElem?_setIfInBounds]
    by_cases e : i = n
    · subst e; rw [if_pos rfl, if_pos (by omega)]; simp
    · rw [if_neg (by omega)]; simp only [if_neg e]; exact t.lo i hi
end
/-- The cells as they are made: all nought, a mark and a size. -/
def zero60 : Array Value := #[.bool false, .int .i64 0] ++ Array.replicate 2042 (.int .i64 0)
theorem zero60_tab (b : Bool) (size : Int) : TabCells ((zero60.setIfInBounds 0 (.bool b)).setIfInBounds 1 (.int .i64 size)) b size (fun _ => 0) (fun _ => 0) := by
  have hz : zero60.size = 2044 := by simp [zero60]
  have hi : ∀ i, 2 ≤ i → i < 2044 → zero60[i]? = some (.int .i64 0) := by
    intro i h1 h2
    unfold zero60
    rw [Array.getElem?_append_right (by simpa using h1)]
    simp only [Array.getElem?_replicate]
    rw [if_pos (by simp; omega)]
  refine ⟨by simp [hz], ?_, ?_, fun i h => ?_, fun i h => ?_⟩
  · rw [Array.getElem?_setIfInBounds, if_neg (by omega), Array.getElem?_setIfInBounds, if_pos rfl, if_pos (by omega)]
  · rw [Array.getElem?_setIfInBounds, if_pos rfl, if_pos (by simp [hz])]
  · rw [Array.getElem?_setIfInBounds, if_neg (by omega), Array.getElem?_setIfInBounds, if_neg (by omega), hi _ (by omega) (by omega)]
  · rw [Array.getElem?_setIfInBounds, if_neg (by omega), Array.getElem?_setIfInBounds, if_neg (by omega), hi _ (by omega) (by omega)]

/-! ### the powers that the program computes -/
/-- 1, t 1, t (t 1), .. -/
def seqT (t : Int → Int) : Nat → Int
  | 0 => 1
  | n + 1 => t (seqT t n)
/-- The table of logarithms after n powers. -/
def logT (t : Int → Int) : Nat → Nat → Int
  | 0 => fun _ => 0
  | n + 1 => fun a => if a = (seqT t n).toNat then (n : Int) else logT t n a
/-- The table of powers after n of them. -/
def expT (t : Int → Int) (n : Nat) : Nat → Int := fun i => if i < n then seqT t i else 0
/-- The first n powers are neither 0 nor, but for the first, 1. -/
def goodT (t : Int → Int) : Nat → Bool
  | 0 => true
  | n + 1 => goodT t n && (decide (seqT t n ≠ 0) && (decide (n = 0) || decide (seqT t n ≠ 1)))
def okT (t : Int → Int) (N : Nat) : Bool := goodT t N && decide (seqT t N = 1)
theorem goodT_le {t : Int → Int} {n m : Nat} (h : goodT t m = true) (hn : n ≤ m) : goodT t n = true := by
  induction m with
  | zero =>
    obtain rfl : n = 0 := by omega
    exact h
  | succ m ih =>
    rcases Nat.lt_or_ge m n with h1 | h1
    · obtain rfl : n = m + 1 := by omega
      exact h
    · simp only [goodT, Bool.and_eq_true] at h
      exact ih h.1 h1
theorem okT_bad {t : Int → Int} {n N : Nat} (hn : n < N) (h : seqT t n = 0 ∨ (0 < n ∧ seqT t n = 1)) : okT t N = false := by
  rw [Bool.eq_false_iff]
  intro e
  simp only [okT, Bool.and_eq_true] at e
  have h1 := goodT_le e.1 (show n + 1 ≤ N by omega)
  simp only [goodT, Bool.and_eq_true, Bool.or_eq_true, decide_eq_true_eq] at h1
  rcases h with h | ⟨h0, h⟩
  · exact h1.2.1 h
  · rcases h1.2.2 with h2 | h2
    · omega
    · exact h2 h
theorem seqT_range {t : Int → Int} {size : Int} (hs : 2 ≤ size) (ht : ∀ x, 0 ≤ x → x < size → 0 ≤ t x ∧ t x < size) (n : Nat) : 0 ≤ seqT t n ∧ seqT t n < size := by
  induction n with
  | zero => simp [seqT]; omega
  | succ n ih => exact ht _ ih.1 ih.2
theorem expT_succ (t : Int → Int) (n : Nat) : (fun i => if i = n then seqT t n else expT t n i) = expT t (n + 1) := by
  funext i
  unfold expT
  by_cases e : i = n
  · subst e; rw [if_pos rfl, if_pos (by omega)]
  · rw [if_neg e]
    by_cases h : i < n
    · rw [if_pos h, if_pos (by omega)]
    · rw [if_neg h, if_neg (by omega)]
theorem expT_zero (t : Int → Int) : expT t 0 = fun _ => 0 := by funext i; simp [expT]
theorem goodT_succ {t : Int → Int} {n : Nat} (h : goodT t n = true) (h0 : seqT t n ≠ 0) (h1 : n = 0 ∨ seqT t n ≠ 1) : goodT t (n + 1) = true := by
  simp only [goodT, Bool.and_eq_true, Bool.or_eq_true, decide_eq_true_eq]
  exact ⟨h, h0, h1⟩
theorem tab_step {T : TypeId} {w : World} {g : Nat} {b : Bool} {size : Int} {t : Int → Int} {k yn : Nat} (hy : seqT t k = (yn : Int))
    (h : Tab T w g b size (fun i => if i = k then (yn : Int) else expT t k i) (fun i => if i = yn then (k : Int) else logT t k i)) : Tab T w g b size (expT t (k + 1)) (logT t (k + 1)) := by
  have e1 := expT_succ t k
  rw [hy] at e1
  rw [e1] at h
  have e2 : (fun i => if i = yn then (k : Int) else logT t k i) = logT t (k + 1) := by
    funext i
    simp only [logT, hy, Int.toNat_natCast]
  rw [e2] at h
  exact h
theorem grown_set {a w : World} {g i : Nat} {u : Value} (h : a.grownBy w (some g)) : a.grownBy (w.setCell ⟨g, i, none⟩ u) (some g) :=
  ⟨h.os, h.tape, h.output, by simpa [World.setCell] using h.size, fun q hq hne => (Below.heap_setCell w _ u q (fun e => hne (by rw [e]))).trans (h.block q hq hne)⟩
/-- What the program's filling of the tables leaves. -/
def Filled (T : TypeId) (t : Int → Int) (N : Nat) (g : Nat) (b : Bool) (size : Int) (w : World) (e : Ending) (w' : World) : Prop :=
  ∃ E L, e = .returned (.bool (okT t N)) ∧ Tab T w' g b size E L ∧ (okT t N = true → E = expT t N ∧ L = logT t N) ∧ w.grownBy w' (some g)
end Go.G8
