/-
  The law FnExactPayloadSegments holds at every input.
  Conditions: none.
-/
import Derived.Test.YtnajjofaijpciaaSegPay
import Derived.Test.YtnajjofaijpciaaFieldT
import Derived.Test.YtnajjofaijpciaaLib
import Derived.Test.YtnajjofaijpciaaSegMk
set_option linter.unusedVariables false
namespace Go.Proofs.Ytnajjofaijpciaa
open Go.RowKit Go.G8
set_option maxHeartbeats 1000000 in
theorem law_FnExactPayloadSegments (f00 f01 f02 : Int) (a1 : Option Addr) (n1 c1 : Nat) (x1 : List Int) (w : World) (hf00 : fits .i64 f00) (hf01 : fits .i64 f01) (hf02 : fits .i64 f02) (h1 : Rd .i64 w a1 n1 x1) :
    Calls Try.prog 4 #[.agg #[.int .i64 f00, .int .i64 f01, .int .i64 f02], .slice a1 n1 c1] w (Ret (.bool true) w) := by
  by_cases hbig0 : 1048576 < n1
  · go_enter Try.func4, Try.ntmps4
    go_wp2
    go_ret
    exact ⟨rfl, by first | exact Below.refl _ _ | exact Below.alloc (Below.refl _ _) (Nat.le_refl _) _⟩
  · skip
    have HSp := Lib.hid (fun a n c w h hn => specPayloadSegments_any f00 f01 f02 a n c x1 w h hn)
    have HIm := Lib.hid (fun a n c w h hn => implPayloadSegments_any f00 f01 f02 a n c x1 w h hn)
    have hbd := rPay_bd f00 f01 f02 x1
    obtain ⟨R, hR⟩ : ∃ R, rPay f00 f01 f02 x1 = R := ⟨_, rfl⟩
    rw [hR] at HSp HIm hbd
    obtain ⟨l, code⟩ := R
    have hn0 : l.length ≤ 800 := hbd.2
    have e2 : (code != code) = false := by simp
    have d1 : decide (1 + 2 * (l.length : Int) < 0) = false := by rw [decide_eq_false_iff_not]; omega
    have e3 : ((1 + 2 * (l.length : Int)) != (1 + 2 * (l.length : Int))) = false := by simp
    clear hbd hR
    go_enter Try.func4, Try.ntmps4
    go_wp2_with fail
    have hw0 : Below w.heap.size w (w.alloc (.cells #[.int .i64 f00, .int .i64 f01, .int .i64 f02] 32)) := Below.alloc (Below.refl _ _) (Nat.le_refl _) _
    have hlt0 : w.heap.size < (w.alloc (.cells #[.int .i64 f00, .int .i64 f01, .int .i64 f02] 32)).heap.size := by simp
    have cc0 : (w.alloc (.cells #[.int .i64 f00, .int .i64 f01, .int .i64 f02] 32)).cell? ⟨w.heap.size, 0, none⟩ = some (.int .i64 f00) := by rw [cell_of_row _ _ _ _ _ (0, 0) (heap_alloc_new w _)]; rfl
    have cc1 : (w.alloc (.cells #[.int .i64 f00, .int .i64 f01, .int .i64 f02] 32)).cell? ⟨w.heap.size, 1, none⟩ = some (.int .i64 f01) := by rw [cell_of_row _ _ _ _ _ (0, 0) (heap_alloc_new w _)]; rfl
    have cc2 : (w.alloc (.cells #[.int .i64 f00, .int .i64 f01, .int .i64 f02] 32)).cell? ⟨w.heap.size, 2, none⟩ = some (.int .i64 f02) := by rw [cell_of_row _ _ _ _ _ (0, 0) (heap_alloc_new w _)]; rfl
    generalize (w.alloc (.cells #[.int .i64 f00, .int .i64 f01, .int .i64 f02] 32)) = W0 at *
    replace h1 := h1.to hw0
    have HB := Below.refl W0.heap.size W0
    refine (toField_any f00 f01 f02 _).mono ?_
    rintro e W1 ⟨rfl, hq1⟩
    replace HB := bt HB hq1
    clear hq1
    go_wp2_with fail
    refine (toInt64S_any a1 n1 c1 x1 _ (h1.to HB) (by omega)).mono ?_
    rintro e W2 ⟨a2r, n2r, c2r, rfl, ho2, hb2⟩
    replace ho2 := ho2.more HB.size
    replace HB := bt HB hb2
    clear hb2
    have hn2 : n2r ≤ 1048576 := by have e1 := ho2.len; have e2 := h1.len; omega
    go_wp2_with fail
    refine (HSp.out a2r n2r c2r _ (ho2.rd h1.2) (by omega)).mono ?_
    rintro e W3 ⟨a3r, n3r, c3r, rfl, hn3, ho3, hb3⟩
    obtain rfl : n3r = l.length := hn3
    clear ho2
    replace ho3 := ho3.more HB.size
    replace HB := bt HB hb3
    clear hb3
    go_wp2_with fail
    refine (toInt64S_any a1 n1 c1 x1 _ (h1.to HB) (by omega)).mono ?_
    rintro e W4 ⟨a4r, n4r, c4r, rfl, ho4, hb4⟩
    have ap3_4 : Apart a3r a4r := fun g e1 e2 => by have := (ho3.lt g e1).2; have := (ho4.lt g e2).1; omega
    replace ho3 := ho3.keep hb4
    replace ho4 := ho4.more HB.size
    replace HB := bt HB hb4
    clear hb4
    have hn4 : n4r ≤ 1048576 := by have e1 := ho4.len; have e2 := h1.len; omega
    have d0 := (HB.cell (p := ⟨w.heap.size, 0, none⟩) hlt0).trans cc0
    have d1' := (HB.cell (p := ⟨w.heap.size, 1, none⟩) hlt0).trans cc1
    have d2 := (HB.cell (p := ⟨w.heap.size, 2, none⟩) hlt0).trans cc2
    go_wp2_with fail
    refine (toField_any f00 f01 f02 _).mono ?_
    rintro e W5 ⟨rfl, hq5⟩
    clear d0 d1' d2
    replace ho3 := ho3.keep hq5
    replace ho4 := ho4.keep hq5
    replace HB := bt HB hq5
    clear hq5
    go_wp2_with fail
    refine (HIm.out a4r n4r c4r _ (ho4.rd h1.2) (by omega)).mono ?_
    rintro e W6 ⟨a6r, n6r, c6r, rfl, hn6, ho6, hb6⟩
    obtain rfl : n6r = l.length := hn6
    have ap3_6 : Apart a3r a6r := apart_newV ho3 ho6
    have ap4_6 : Apart a4r a6r := fun g e1 e2 => by have := (ho4.lt g e1).2; have := (ho6.lt g e2).1; omega
    replace ho3 := ho3.keep hb6
    replace ho4 := ho4.keep hb6
    replace ho6 := ho6.more HB.size
    replace HB := bt HB hb6
    clear hb6
    go_wp2_with fail
    refine (eqSegmentS_same a6r a3r l.length c6r c3r l _ ho6.rd ho3.rd (by omega)).mono ?_
    rintro e W7 ⟨rfl, hq7⟩
    replace ho3 := ho3.keep hq7
    replace ho4 := ho4.keep hq7
    replace ho6 := ho6.keep hq7
    replace HB := bt HB hq7
    clear hq7
    go_wp2_with fail
    refine (toInt64S_any a1 n1 c1 x1 _ (h1.to HB) (by omega)).mono ?_
    rintro e W8 ⟨a8r, n8r, c8r, rfl, ho8, hb8⟩
    replace ho3 := ho3.keep hb8
    replace ho4 := ho4.keep hb8
    replace ho6 := ho6.keep hb8
    replace ho8 := ho8.more HB.size
    replace HB := bt HB hb8
    clear hb8
    have hn8 : n8r ≤ 1048576 := by have e1 := ho8.len; have e2 := h1.len; omega
    go_wp2_with fail
    refine (eqInt64S_same a4r a8r n4r n8r c4r c8r x1 _ (ho4.rd h1.2) (ho8.rd h1.2) (by omega)).mono ?_
    rintro e W9 ⟨rfl, hq9⟩
    replace hq9 := below_q hq9
    replace ho3 := ho3.keep hq9
    replace ho4 := ho4.keep hq9
    replace ho6 := ho6.keep hq9
    replace HB := bt HB hq9
    clear hq9 ho8
    go_wp2_with fail
    refine (markInt64S_any _ a4r n4r c4r x1 1 _ ho4 (by omega) (by omega) (by omega)).mono ?_
    rintro e W10 ⟨rfl, hm10, hg10⟩
    replace ho3 := ho3.sep hg10 ap3_4
    replace ho6 := ho6.sep hg10 ap4_6.symm
    replace HB := below_mark HB ho4 (Nat.le_refl _) hg10
    clear hm10 hg10 ho4
    go_wp2_with fail
    refine (eqSegmentS_same a6r a3r l.length c6r c3r l _ ho6.rd ho3.rd (by omega)).mono ?_
    rintro e W11 ⟨rfl, hq11⟩
    replace ho3 := ho3.keep hq11
    replace ho6 := ho6.keep hq11
    replace HB := bt HB hq11
    clear hq11
    go_wp2_with fail
    refine (markSegmentS_any _ a6r c6r l.length l _ ho6 (by omega)).mono ?_
    rintro e W12 ⟨rfl, hm12, hg12⟩
    replace ho3 := ho3.sep hg12 ap3_6
    replace HB := below_markV HB ho6 (Nat.le_refl _) hg12
    replace ho6 := hm12
    clear hm12 hg12
    go_wp2_with fail
    refine (heldSegmentS_seq a6r c6r l.length _ ho6.rd (by omega)).mono ?_
    rintro e W13 ⟨rfl, hq13⟩
    replace ho3 := ho3.keep hq13
    replace ho6 := ho6.keep hq13
    replace HB := bt HB hq13
    clear hq13
    have d0 := (HB.cell (p := ⟨w.heap.size, 0, none⟩) hlt0).trans cc0
    have d1' := (HB.cell (p := ⟨w.heap.size, 1, none⟩) hlt0).trans cc1
    have d2 := (HB.cell (p := ⟨w.heap.size, 2, none⟩) hlt0).trans cc2
    go_wp2_with fail
    refine (toField_any f00 f01 f02 _).mono ?_
    rintro e W14 ⟨rfl, hq14⟩
    clear d0 d1' d2
    replace ho3 := ho3.keep hq14
    replace ho6 := ho6.keep hq14
    replace HB := bt HB hq14
    clear hq14
    go_wp2_with fail
    refine (toInt64S_any a1 n1 c1 x1 _ (h1.to HB) (by omega)).mono ?_
    rintro e W15 ⟨a15r, n15r, c15r, rfl, ho15, hb15⟩
    replace ho3 := ho3.keep hb15
    replace ho6 := ho6.keep hb15
    replace ho15 := ho15.more HB.size
    replace HB := bt HB hb15
    clear hb15
    have hn15 : n15r ≤ 1048576 := by have e1 := ho15.len; have e2 := h1.len; omega
    go_wp2_with fail
    refine (HIm.out a15r n15r c15r _ (ho15.rd h1.2) (by omega)).mono ?_
    rintro e W16 ⟨a16r, n16r, c16r, rfl, hn16, ho16, hb16⟩
    obtain rfl : n16r = l.length := hn16
    replace ho3 := ho3.keep hb16
    replace ho6 := ho6.keep hb16
    replace ho16 := ho16.more HB.size
    replace HB := bt HB hb16
    clear hb16 ho15
    go_wp2_with fail
    refine (eqSegmentS_same a16r a3r l.length c16r c3r l _ ho16.rd ho3.rd (by omega)).mono ?_
    rintro e W17 ⟨rfl, hq17⟩
    replace ho6 := ho6.keep hq17
    replace HB := bt HB hq17
    clear hq17
    go_wp2_with fail
    refine (heldSegmentS_seq a6r c6r l.length _ ho6.rd (by omega)).mono ?_
    rintro e W18 ⟨rfl, hq18⟩
    replace HB := bt HB hq18
    clear hq18
    go_wp2_with fail
    go_ret
    exact ⟨rfl, bt hw0 HB⟩
end Go.Proofs.Ytnajjofaijpciaa
