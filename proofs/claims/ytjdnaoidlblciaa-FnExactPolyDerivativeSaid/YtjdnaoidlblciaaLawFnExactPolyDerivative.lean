/-
  The law FnExactPolyDerivative holds at every input.
  Conditions: none.
-/
import Derived.Test.YtjdnaoidlblciaaDerC
import Derived.Test.YtjdnaoidlblciaaFieldT
import Derived.Test.YtjdnaoidlblciaaLib
set_option linter.unusedVariables false
namespace Go.Proofs.Ytjdnaoidlblciaa
open Go.RowKit Go.G8
set_option maxHeartbeats 1000000 in
theorem law_FnExactPolyDerivative (f00 f01 f02 : Int) (a1 : Option Addr) (n1 c1 : Nat) (x1 : List Int) (w : World) (hf00 : fits .i64 f00) (hf01 : fits .i64 f01) (hf02 : fits .i64 f02) (h1 : Rd .i64 w a1 n1 x1) :
    Calls Try.prog 5 #[.agg #[.int .i64 f00, .int .i64 f01, .int .i64 f02], .slice a1 n1 c1] w (Ret (.bool true) w) := by
  by_cases hbig0 : 1048576 < n1
  · go_enter Try.func5, Try.ntmps5
    go_wp2
    go_ret
    exact ⟨rfl, by first | exact Below.refl _ _ | exact Below.alloc (Below.refl _ _) (Nat.le_refl _) _⟩
  · skip
    have hi_f00 : -9223372036854775808 ≤ f00 ∧ f00 ≤ 9223372036854775807 := hf00
    have hi_f01 : -9223372036854775808 ≤ f01 ∧ f01 ≤ 9223372036854775807 := hf01
    have hi_f02 : -9223372036854775808 ≤ f02 ∧ f02 ≤ 9223372036854775807 := hf02
    go_enter Try.func5, Try.ntmps5
    go_wp2_with fail
    have hw0 : Below w.heap.size w (w.alloc (.cells #[.int .i64 f00, .int .i64 f01, .int .i64 f02] 36)) := Below.alloc (Below.refl _ _) (Nat.le_refl _) _
    have hlt0 : w.heap.size < (w.alloc (.cells #[.int .i64 f00, .int .i64 f01, .int .i64 f02] 36)).heap.size := by simp
    have cc0 : (w.alloc (.cells #[.int .i64 f00, .int .i64 f01, .int .i64 f02] 36)).cell? ⟨w.heap.size, 0, none⟩ = some (.int .i64 f00) := by rw [cell_of_row _ _ _ _ _ (0, 0) (heap_alloc_new w _)]; rfl
    have cc1 : (w.alloc (.cells #[.int .i64 f00, .int .i64 f01, .int .i64 f02] 36)).cell? ⟨w.heap.size, 1, none⟩ = some (.int .i64 f01) := by rw [cell_of_row _ _ _ _ _ (0, 0) (heap_alloc_new w _)]; rfl
    have cc2 : (w.alloc (.cells #[.int .i64 f00, .int .i64 f01, .int .i64 f02] 36)).cell? ⟨w.heap.size, 2, none⟩ = some (.int .i64 f02) := by rw [cell_of_row _ _ _ _ _ (0, 0) (heap_alloc_new w _)]; rfl
    generalize (w.alloc (.cells #[.int .i64 f00, .int .i64 f01, .int .i64 f02] 36)) = W0 at *
    replace h1 := h1.to hw0
    have HB := Below.refl W0.heap.size W0
    refine (toField_any f00 f01 f02 _).mono ?_
    rintro e W1 ⟨rfl, hq1⟩
    replace HB := bt HB hq1
    clear hq1
    go_wp2_with fail
    refine (toInt64S_any a1 n1 c1 x1 _ (h1.to HB) (by omega)).mono ?_
    rintro e W2 ⟨a2r, n2r, c2r, rfl, ho2, hb2⟩
    replace ho2 := ho2.more HB.size
    replace HB := bt HB hb2
    clear hb2
    have hn2 : n2r ≤ 1048576 := by have e1 := ho2.len; have e2 := h1.len; omega
    go_wp2_with fail
    refine (specPolyDerivative_any f00 f01 f02 a2r n2r c2r x1 _ (ho2.rd h1.2) (by omega)).mono ?_
    rintro e W3 ⟨a3r, n3r, c3r, rfl, ho3, hb3⟩
    have ap2_3 := apart_new ho2 ho3
    replace ho2 := ho2.keep hb3
    replace ho3 := ho3.more HB.size
    replace HB := bt HB hb3
    clear hb3
    have hn3 : n3r ≤ 1000000 := by have e1 := ho3.len; have e2 := (rPolyDerivative_ok f00 f01 f02 x1).1; omega
    go_wp2_with fail
    refine (toInt64S_any a1 n1 c1 x1 _ (h1.to HB) (by omega)).mono ?_
    rintro e W4 ⟨a4r, n4r, c4r, rfl, ho4, hb4⟩
    have ap2_4 := apart_new ho2 ho4
    have ap3_4 := apart_new ho3 ho4
    replace ho2 := ho2.keep hb4
    replace ho3 := ho3.keep hb4
    replace ho4 := ho4.more HB.size
    replace HB := bt HB hb4
    clear hb4
    have hn4 : n4r ≤ 1048576 := by have e1 := ho4.len; have e2 := h1.len; omega
    have d0 := (HB.cell (p := ⟨w.heap.size, 0, none⟩) hlt0).trans cc0
    have d1 := (HB.cell (p := ⟨w.heap.size, 1, none⟩) hlt0).trans cc1
    have d2 := (HB.cell (p := ⟨w.heap.size, 2, none⟩) hlt0).trans cc2
    go_wp2_with fail
    refine (toField_any f00 f01 f02 _).mono ?_
    rintro e W5 ⟨rfl, hq5⟩
    clear d0 d1 d2
    replace ho2 := ho2.keep hq5
    replace ho3 := ho3.keep hq5
    replace ho4 := ho4.keep hq5
    replace HB := bt HB hq5
    clear hq5
    go_wp2_with fail
    refine (implPolyDerivative_any f00 f01 f02 a4r n4r c4r x1 _ (ho4.rd h1.2) (by omega)).mono ?_
    rintro e W6 ⟨a6r, n6r, c6r, rfl, ho6, hb6⟩
    have ap2_6 := apart_new ho2 ho6
    have ap3_6 := apart_new ho3 ho6
    have ap4_6 := apart_new ho4 ho6
    replace ho2 := ho2.keep hb6
    replace ho3 := ho3.keep hb6
    replace ho4 := ho4.keep hb6
    replace ho6 := ho6.more HB.size
    replace HB := bt HB hb6
    clear hb6
    have hn6 : n6r ≤ 1000000 := by have e1 := ho6.len; have e2 := (rPolyDerivative_ok f00 f01 f02 x1).1; omega
    go_wp2_with fail
    refine (eqInt64S_same a6r a3r n6r n3r c6r c3r (rPolyDerivative f00 f01 f02 x1).1 _ (ho6.rd (rPolyDerivative_ok f00 f01 f02 x1).2) (ho3.rd (rPolyDerivative_ok f00 f01 f02 x1).2) (by omega)).mono ?_
    rintro e W7 ⟨rfl, hq7⟩
    replace hq7 := below_q hq7
    replace ho2 := ho2.keep hq7
    replace ho3 := ho3.keep hq7
    replace ho4 := ho4.keep hq7
    replace ho6 := ho6.keep hq7
    replace HB := bt HB hq7
    clear hq7
    go_wp2_with fail
    refine (toInt64S_any a1 n1 c1 x1 _ (h1.to HB) (by omega)).mono ?_
    rintro e W8 ⟨a8r, n8r, c8r, rfl, ho8, hb8⟩
    have ap2_8 := apart_new ho2 ho8
    have ap3_8 := apart_new ho3 ho8
    have ap4_8 := apart_new ho4 ho8
    have ap6_8 := apart_new ho6 ho8
    replace ho2 := ho2.keep hb8
    replace ho3 := ho3.keep hb8
    replace ho4 := ho4.keep hb8
    replace ho6 := ho6.keep hb8
    replace ho8 := ho8.more HB.size
    replace HB := bt HB hb8
    clear hb8
    have hn8 : n8r ≤ 1048576 := by have e1 := ho8.len; have e2 := h1.len; omega
    go_wp2_with fail
    refine (eqInt64S_same a4r a8r n4r n8r c4r c8r x1 _ (ho4.rd h1.2) (ho8.rd h1.2) (by omega)).mono ?_
    rintro e W9 ⟨rfl, hq9⟩
    replace hq9 := below_q hq9
    replace ho2 := ho2.keep hq9
    replace ho3 := ho3.keep hq9
    replace ho4 := ho4.keep hq9
    replace ho6 := ho6.keep hq9
    replace ho8 := ho8.keep hq9
    replace HB := bt HB hq9
    clear hq9
    go_wp2_with fail
    refine (markInt64S_any _ a4r n4r c4r x1 1 _ ho4 (by omega) (by omega) (by omega)).mono ?_
    rintro e W10 ⟨rfl, hm10, hg10⟩
    replace ho2 := ho2.sep hg10 ap2_4
    replace ho3 := ho3.sep hg10 ap3_4
    replace ho6 := ho6.sep hg10 ap4_6.symm
    replace ho8 := ho8.sep hg10 ap4_8.symm
    replace HB := below_mark HB ho4 (Nat.le_refl _) hg10
    replace ho4 := hm10
    clear hm10 hg10
    go_wp2_with fail
    refine (eqInt64S_same a6r a3r n6r n3r c6r c3r (rPolyDerivative f00 f01 f02 x1).1 _ (ho6.rd (rPolyDerivative_ok f00 f01 f02 x1).2) (ho3.rd (rPolyDerivative_ok f00 f01 f02 x1).2) (by omega)).mono ?_
    rintro e W11 ⟨rfl, hq11⟩
    replace hq11 := below_q hq11
    replace ho2 := ho2.keep hq11
    replace ho3 := ho3.keep hq11
    replace ho4 := ho4.keep hq11
    replace ho6 := ho6.keep hq11
    replace ho8 := ho8.keep hq11
    replace HB := bt HB hq11
    clear hq11
    go_wp2_with fail
    refine (markInt64S_any _ a6r n6r c6r (rPolyDerivative f00 f01 f02 x1).1 1 _ ho6 (by omega) (by omega) (by omega)).mono ?_
    rintro e W12 ⟨rfl, hm12, hg12⟩
    replace ho2 := ho2.sep hg12 ap2_6
    replace ho3 := ho3.sep hg12 ap3_6
    replace ho4 := ho4.sep hg12 ap4_6
    replace ho8 := ho8.sep hg12 ap6_8.symm
    replace HB := below_mark HB ho6 (Nat.le_refl _) hg12
    replace ho6 := hm12
    clear hm12 hg12
    go_wp2_with fail
    refine (heldInt64S_seq a6r n6r c6r 1 _ (ho6.rd (seqI_fits 1 n6r (by omega) (by omega))) (by omega) (by omega) (by omega)).mono ?_
    rintro e w' ⟨rfl, rfl⟩
    have d0 := (HB.cell (p := ⟨w.heap.size, 0, none⟩) hlt0).trans cc0
    have d1 := (HB.cell (p := ⟨w.heap.size, 1, none⟩) hlt0).trans cc1
    have d2 := (HB.cell (p := ⟨w.heap.size, 2, none⟩) hlt0).trans cc2
    go_wp2_with fail
    refine (toField_any f00 f01 f02 _).mono ?_
    rintro e W13 ⟨rfl, hq13⟩
    clear d0 d1 d2
    replace ho2 := ho2.keep hq13
    replace ho3 := ho3.keep hq13
    replace ho4 := ho4.keep hq13
    replace ho6 := ho6.keep hq13
    replace ho8 := ho8.keep hq13
    replace HB := bt HB hq13
    clear hq13
    go_wp2_with fail
    refine (toInt64S_any a1 n1 c1 x1 _ (h1.to HB) (by omega)).mono ?_
    rintro e W14 ⟨a14r, n14r, c14r, rfl, ho14, hb14⟩
    have ap2_14 := apart_new ho2 ho14
    have ap3_14 := apart_new ho3 ho14
    have ap4_14 := apart_new ho4 ho14
    have ap6_14 := apart_new ho6 ho14
    have ap8_14 := apart_new ho8 ho14
    replace ho2 := ho2.keep hb14
    replace ho3 := ho3.keep hb14
    replace ho4 := ho4.keep hb14
    replace ho6 := ho6.keep hb14
    replace ho8 := ho8.keep hb14
    replace ho14 := ho14.more HB.size
    replace HB := bt HB hb14
    clear hb14
    have hn14 : n14r ≤ 1048576 := by have e1 := ho14.len; have e2 := h1.len; omega
    go_wp2_with fail
    refine (implPolyDerivative_any f00 f01 f02 a14r n14r c14r x1 _ (ho14.rd h1.2) (by omega)).mono ?_
    rintro e W15 ⟨a15r, n15r, c15r, rfl, ho15, hb15⟩
    have ap2_15 := apart_new ho2 ho15
    have ap3_15 := apart_new ho3 ho15
    have ap4_15 := apart_new ho4 ho15
    have ap6_15 := apart_new ho6 ho15
    have ap8_15 := apart_new ho8 ho15
    have ap14_15 := apart_new ho14 ho15
    replace ho2 := ho2.keep hb15
    replace ho3 := ho3.keep hb15
    replace ho4 := ho4.keep hb15
    replace ho6 := ho6.keep hb15
    replace ho8 := ho8.keep hb15
    replace ho14 := ho14.keep hb15
    replace ho15 := ho15.more HB.size
    replace HB := bt HB hb15
    clear hb15
    have hn15 : n15r ≤ 1000000 := by have e1 := ho15.len; have e2 := (rPolyDerivative_ok f00 f01 f02 x1).1; omega
    go_wp2_with fail
    refine (eqInt64S_same a15r a3r n15r n3r c15r c3r (rPolyDerivative f00 f01 f02 x1).1 _ (ho15.rd (rPolyDerivative_ok f00 f01 f02 x1).2) (ho3.rd (rPolyDerivative_ok f00 f01 f02 x1).2) (by omega)).mono ?_
    rintro e W16 ⟨rfl, hq16⟩
    replace hq16 := below_q hq16
    replace ho2 := ho2.keep hq16
    replace ho3 := ho3.keep hq16
    replace ho4 := ho4.keep hq16
    replace ho6 := ho6.keep hq16
    replace ho8 := ho8.keep hq16
    replace ho14 := ho14.keep hq16
    replace ho15 := ho15.keep hq16
    replace HB := bt HB hq16
    clear hq16
    go_wp2_with fail
    refine (heldInt64S_seq a6r n6r c6r 1 _ (ho6.rd (seqI_fits 1 n6r (by omega) (by omega))) (by omega) (by omega) (by omega)).mono ?_
    rintro e w' ⟨rfl, rfl⟩
    go_wp2_with fail
    go_ret
    exact ⟨rfl, bt hw0 HB⟩
end Go.Proofs.Ytjdnaoidlblciaa
