/-
  Contracts: ReadSegment on both sides.
  Conditions: lists of at most 1048576 numbers.
-/
import Derived.Test.YtnajjofaijpciaaSegI
import Derived.Test.YtnajjofaijpciaaL01a
set_option linter.unusedVariables false
namespace Go.Proofs.Ytnajjofaijpciaa
open Go.RowKit Go.G8
theorem set2_alloc {w W : World} (x y : Value) (o : Obj) {u0 u1 : Value} (hB : Below w.heap.size w W) (hlt : w.heap.size < W.heap.size) (c0 : W.cell? ⟨w.heap.size, 0, none⟩ = some u0) (c1 : W.cell? ⟨w.heap.size, 1, none⟩ = some u1) :
    (((W.setCell ⟨w.heap.size, 0, none⟩ x).setCell ⟨w.heap.size, 1, none⟩ y).alloc o).cell? ⟨w.heap.size, 0, none⟩ = some x ∧ (((W.setCell ⟨w.heap.size, 0, none⟩ x).setCell ⟨w.heap.size, 1, none⟩ y).alloc o).cell? ⟨w.heap.size, 1, none⟩ = some y ∧ Below w.heap.size w (((W.setCell ⟨w.heap.size, 0, none⟩ x).setCell ⟨w.heap.size, 1, none⟩ y).alloc o) := by
  obtain ⟨e0, e1, e2⟩ := set2_end x y hB hlt c0 c1
  have hA := Below.alloc (Below.refl _ ((W.setCell ⟨w.heap.size, 0, none⟩ x).setCell ⟨w.heap.size, 1, none⟩ y)) (Nat.le_refl _) o
  obtain ⟨k0, k1⟩ := keep2 hA (by simpa using hlt) e0 e1
  exact ⟨k0, k1, bt e2 hA⟩
def noSeg (code : Int) : Value := .tuple #[.agg #[.int .i64 0, .string ⟨#[]⟩], .int .i64 0, .int .i64 code]
def readRes (xs : List Int) (at_ : Int) : Value :=
  if isBits xs = false then noSeg 1 else if ¬ (0 ≤ at_ ∧ at_ ≤ xs.length) then noSeg 2 else
  match rSeg xs at_.toNat with
  | none => noSeg 6
  | some (m, t, nx) => .tuple #[.agg #[.int .i64 m, .string (strOfNums t)], .int .i64 nx, .int .i64 0]
theorem isBits_parts {xs : List Int} (h : isBits xs = true) : xs.length ≤ 8192 ∧ ∀ x ∈ xs, x = 0 ∨ x = 1 := by
  unfold isBits at h
  rw [Bool.and_eq_true, decide_eq_true_eq, List.all_eq_true] at h
  refine ⟨h.1, fun x hx => ?_⟩
  have := h.2 x hx
  rw [decide_eq_true_eq] at this
  omega
set_option maxHeartbeats 1000000 in
set_option maxRecDepth 20000 in
theorem specReadSegment_any (a : Option Addr) (n c : Nat) (at_ : Int) (xs : List Int) (w : World) (h : Rd .i64 w a n xs) (hn : n ≤ 1048576) :
    Calls Try.prog 8 #[.slice a n c, .int .i64 at_] w (Ret (readRes xs at_) w) := by
  obtain ⟨z0, z1, z2⟩ := new_two w (.int .i64 0) (.string ⟨#[]⟩) 24
  have hal : Below w.heap.size w (w.alloc (.cells #[.int .i64 0, .string ⟨#[]⟩] 24)) := Below.alloc (Below.refl _ _) (Nat.le_refl _) _
  have zf : ∀ i, (w.alloc (.cells #[.int .i64 0, .string ⟨#[]⟩] 24)).frozen? ⟨w.heap.size, i, none⟩ = false := fun i => frozen_of_row _ _ _ _ _ (heap_alloc_new w _)
  have HR := Lib.hid (h.to hal)
  have HAl := Lib.hid hal
  have hlen := h.len
  clear hal h
  cases hib : isBits xs with
  | false =>
    have hr := Lib.hid (show readRes xs at_ = noSeg 1 by unfold readRes; rw [if_pos hib])
    go_enter Try.func8, Try.ntmps8
    go_wp2_with fail
    refine (specIsBits_any a n c xs _ HR.out (by omega)).mono ?_
    rintro e w1 ⟨rfl, rfl⟩
    rw [hib]
    go_wp2_with fail
    refine bodyPost_ret (v := noSeg 1) (by simp [results, Try.results8, go_sem, noSeg, z0, z1]) rfl ⟨?_, HAl.out⟩
    rw [hr.out]
  | true =>
    obtain ⟨hl, hb⟩ := isBits_parts hib
    have hb := Lib.hid hb
    by_cases hin : ¬ (0 ≤ at_ ∧ at_ ≤ n)
    · have hr := Lib.hid (show readRes xs at_ = noSeg 2 by unfold readRes; rw [if_neg (by rw [hib]; decide), if_pos (by rw [hlen]; exact hin)])
      go_enter Try.func8, Try.ntmps8
      go_wp2_with fail
      refine (specIsBits_any a n c xs _ HR.out (by omega)).mono ?_
      rintro e w1 ⟨rfl, rfl⟩
      rw [hib]
      go_wp2_with fail
      refine (l01In_no at_ 0 n _ hin).mono ?_
      rintro e w1 ⟨rfl, rfl⟩
      go_wp2_with fail
      refine bodyPost_ret (v := noSeg 2) (by simp [results, Try.results8, go_sem, noSeg, z0, z1]) rfl ⟨?_, HAl.out⟩
      rw [hr.out]
    · have hin : 0 ≤ at_ ∧ at_ ≤ n := Classical.not_not.1 hin
      obtain ⟨A, rfl⟩ := Int.eq_ofNat_of_zero_le hin.1
      have hr0 := Lib.hid (show readRes xs A = (match rSeg xs A with | none => noSeg 6 | some (m, t, nx) => .tuple #[.agg #[.int .i64 m, .string (strOfNums t)], .int .i64 nx, .int .i64 0]) by unfold readRes; rw [if_neg (by rw [hib]; decide), if_neg (by rw [hlen]; exact not_not_intro hin), Int.toNat_natCast])
      have HRd := Lib.hid (fun W (hR : Rd .i64 W a n xs) => l09Read_any a n c A xs W hR hb (by omega) (by omega))
      obtain ⟨r, hr⟩ : ∃ r, rSeg xs A = r := ⟨_, rfl⟩
      rw [hr] at HRd hr0
      rcases r with _ | ⟨m, t, nx⟩
      all_goals simp only [segRes] at HRd
      · go_enter Try.func8, Try.ntmps8
        go_wp2_with fail
        refine (specIsBits_any a n c xs _ HR.out (by omega)).mono ?_
        rintro e w1 ⟨rfl, rfl⟩
        rw [hib]
        go_wp2_with fail
        refine (l01In_yes A 0 n _ hin).mono ?_
        rintro e w1 ⟨rfl, rfl⟩
        go_wp2_with fail
        refine (HRd.out _ HR.out).mono ?_
        rintro e w1 ⟨rfl, hb1⟩
        obtain ⟨y0, y1⟩ := keep2 hb1 z2 z0 z1
        have yz := keep2f hb1 z2 zf
        have HB1 := Lib.hid (bt HAl.out hb1)
        have hlt1 := Nat.lt_of_lt_of_le z2 hb1.size
        clear hb1 z0 z1 zf
        obtain ⟨x0, x1, x2⟩ := set2_alloc (.int .i64 0) (.string ⟨#[]⟩) (.cells #[.int .i64 0, .string ⟨#[]⟩] 24) HB1.out hlt1 y0 y1
        have X2 := Lib.hid x2
        clear x2
        go_wp2_with fail
        refine bodyPost_ret (v := noSeg 6) (by simp [results, Try.results8, go_sem, noSeg, x0, x1]) rfl ⟨?_, X2.out⟩
        rw [hr0.out]
      · go_enter Try.func8, Try.ntmps8
        go_wp2_with fail
        refine (specIsBits_any a n c xs _ HR.out (by omega)).mono ?_
        rintro e w1 ⟨rfl, rfl⟩
        rw [hib]
        go_wp2_with fail
        refine (l01In_yes A 0 n _ hin).mono ?_
        rintro e w1 ⟨rfl, rfl⟩
        go_wp2_with fail
        refine (HRd.out _ HR.out).mono ?_
        rintro e w1 ⟨rfl, hb1⟩
        obtain ⟨y0, y1⟩ := keep2 hb1 z2 z0 z1
        have yz := keep2f hb1 z2 zf
        have HB1 := Lib.hid (bt HAl.out hb1)
        have hlt1 := Nat.lt_of_lt_of_le z2 hb1.size
        clear hb1 z0 z1 zf
        obtain ⟨x0, x1, x2⟩ := set2_alloc (.int .i64 m) (.string (strOfNums t)) (.cells #[.int .i64 m, .string (strOfNums t)] 24) HB1.out hlt1 y0 y1
        have X2 := Lib.hid x2
        clear x2
        go_wp2_with fail
        refine bodyPost_ret (v := .tuple #[.agg #[.int .i64 m, .string (strOfNums t)], .int .i64 nx, .int .i64 0]) (by simp [results, Try.results8, go_sem, x0, x1]) rfl ⟨?_, X2.out⟩
        rw [hr0.out]
set_option maxHeartbeats 1000000 in
set_option maxRecDepth 20000 in
theorem implReadSegment_any (a : Option Addr) (n c : Nat) (at_ : Int) (xs : List Int) (w : World) (hc : n ≤ c) (hc2 : c ≤ 9223372036854775807) (h : Rd .i64 w a n xs) (hn : n ≤ 1048576) :
    Calls Try.prog 10 #[.slice a n c, .int .i64 at_] w (Ret (readRes xs at_) w) := by
  obtain ⟨z0, z1, z2⟩ := new_two w (.int .i64 0) (.string ⟨#[]⟩) 24
  have hal : Below w.heap.size w (w.alloc (.cells #[.int .i64 0, .string ⟨#[]⟩] 24)) := Below.alloc (Below.refl _ _) (Nat.le_refl _) _
  have zf : ∀ i, (w.alloc (.cells #[.int .i64 0, .string ⟨#[]⟩] 24)).frozen? ⟨w.heap.size, i, none⟩ = false := fun i => frozen_of_row _ _ _ _ _ (heap_alloc_new w _)
  have HR := Lib.hid (h.to hal)
  have HAl := Lib.hid hal
  have hlen := h.len
  clear hal h
  cases hib : isBits xs with
  | false =>
    have hr := Lib.hid (show readRes xs at_ = noSeg 1 by unfold readRes; rw [if_pos hib])
    go_enter Try.func10, Try.ntmps10
    go_wp2_with fail
    refine (implIsBits_any a n c xs _ HR.out (by omega)).mono ?_
    rintro e w1 ⟨rfl, rfl⟩
    rw [hib]
    go_wp2_with fail
    refine bodyPost_ret (v := noSeg 1) (by simp [results, Try.results10, go_sem, noSeg, z0, z1]) rfl ⟨?_, HAl.out⟩
    rw [hr.out]
  | true =>
    obtain ⟨hl, hb⟩ := isBits_parts hib
    have hb := Lib.hid hb
    by_cases hin : ¬ (0 ≤ at_ ∧ at_ ≤ n)
    · have hr := Lib.hid (show readRes xs at_ = noSeg 2 by unfold readRes; rw [if_neg (by rw [hib]; decide), if_pos (by rw [hlen]; exact hin)])
      go_enter Try.func10, Try.ntmps10
      go_wp2_with fail
      refine (implIsBits_any a n c xs _ HR.out (by omega)).mono ?_
      rintro e w1 ⟨rfl, rfl⟩
      rw [hib]
      go_wp2_with fail
      refine (inRange_no at_ 0 n _ hin).mono ?_
      rintro e w1 ⟨rfl, rfl⟩
      go_wp2_with fail
      refine bodyPost_ret (v := noSeg 2) (by simp [results, Try.results10, go_sem, noSeg, z0, z1]) rfl ⟨?_, HAl.out⟩
      rw [hr.out]
    · have hin : 0 ≤ at_ ∧ at_ ≤ n := Classical.not_not.1 hin
      obtain ⟨A, rfl⟩ := Int.eq_ofNat_of_zero_le hin.1
      have hr0 := Lib.hid (show readRes xs A = (match rSeg xs A with | none => noSeg 6 | some (m, t, nx) => .tuple #[.agg #[.int .i64 m, .string (strOfNums t)], .int .i64 nx, .int .i64 0]) by unfold readRes; rw [if_neg (by rw [hib]; decide), if_neg (by rw [hlen]; exact not_not_intro hin), Int.toNat_natCast])
      have HRd := Lib.hid (fun W (hR : Rd .i64 W a n xs) => readSegment_any a n c A xs W hc hc2 hR hb (by omega) (by omega))
      obtain ⟨r, hr⟩ : ∃ r, rSeg xs A = r := ⟨_, rfl⟩
      rw [hr] at HRd hr0
      rcases r with _ | ⟨m, t, nx⟩
      all_goals simp only [segRes] at HRd
      · go_enter Try.func10, Try.ntmps10
        go_wp2_with fail
        refine (implIsBits_any a n c xs _ HR.out (by omega)).mono ?_
        rintro e w1 ⟨rfl, rfl⟩
        rw [hib]
        go_wp2_with fail
        refine (inRange_yes A 0 n _ hin).mono ?_
        rintro e w1 ⟨rfl, rfl⟩
        go_wp2_with fail
        refine (HRd.out _ HR.out).mono ?_
        rintro e w1 ⟨rfl, hb1⟩
        obtain ⟨y0, y1⟩ := keep2 hb1 z2 z0 z1
        have yz := keep2f hb1 z2 zf
        have HB1 := Lib.hid (bt HAl.out hb1)
        have hlt1 := Nat.lt_of_lt_of_le z2 hb1.size
        clear hb1 z0 z1 zf
        obtain ⟨x0, x1, x2⟩ := set2_alloc (.int .i64 0) (.string ⟨#[]⟩) (.cells #[.int .i64 0, .string ⟨#[]⟩] 24) HB1.out hlt1 y0 y1
        have X2 := Lib.hid x2
        clear x2
        go_wp2_with fail
        refine bodyPost_ret (v := noSeg 6) (by simp [results, Try.results10, go_sem, noSeg, x0, x1]) rfl ⟨?_, X2.out⟩
        rw [hr0.out]
      · go_enter Try.func10, Try.ntmps10
        go_wp2_with fail
        refine (implIsBits_any a n c xs _ HR.out (by omega)).mono ?_
        rintro e w1 ⟨rfl, rfl⟩
        rw [hib]
        go_wp2_with fail
        refine (inRange_yes A 0 n _ hin).mono ?_
        rintro e w1 ⟨rfl, rfl⟩
        go_wp2_with fail
        refine (HRd.out _ HR.out).mono ?_
        rintro e w1 ⟨rfl, hb1⟩
        obtain ⟨y0, y1⟩ := keep2 hb1 z2 z0 z1
        have yz := keep2f hb1 z2 zf
        have HB1 := Lib.hid (bt HAl.out hb1)
        have hlt1 := Nat.lt_of_lt_of_le z2 hb1.size
        clear hb1 z0 z1 zf
        obtain ⟨x0, x1, x2⟩ := set2_alloc (.int .i64 m) (.string (strOfNums t)) (.cells #[.int .i64 m, .string (strOfNums t)] 24) HB1.out hlt1 y0 y1
        have X2 := Lib.hid x2
        clear x2
        go_wp2_with fail
        refine bodyPost_ret (v := .tuple #[.agg #[.int .i64 m, .string (strOfNums t)], .int .i64 nx, .int .i64 0]) (by simp [results, Try.results10, go_sem, x0, x1]) rfl ⟨?_, X2.out⟩
        rw [hr0.out]
end Go.Proofs.Ytnajjofaijpciaa
