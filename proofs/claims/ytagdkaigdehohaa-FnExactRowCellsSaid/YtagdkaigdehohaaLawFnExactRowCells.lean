/-
  The law FnExactRowCells holds at every input.
  Conditions: none.
-/
import Derived.Test.YtagdkaigdehohaaRowD
set_option linter.unusedVariables false
namespace Go.Proofs.Ytagdkaigdehohaa
open Go.RowKit Go.G8
set_option maxHeartbeats 1000000 in
theorem law_FnExactRowCells (a0 : Int) (a1 : Option Addr) (n1 c1 : Nat) (x1 : List Int) (w : World) (h0 : fits .i64 a0) (h1 : Rd .i64 w a1 n1 x1) :
    Calls Try.prog 10 #[.int .i64 a0, .slice a1 n1 c1] w (Ret (.bool true) w) := by
  have hi_a0 : -9223372036854775808 ≤ a0 ∧ a0 ≤ 9223372036854775807 := h0
  by_cases hbig0 : 1048576 < n1
  · go_enter Try.func10, Try.ntmps10
    go_wp2
    go_ret
    exact ⟨rfl, by first | exact Below.refl _ _ | exact Below.alloc (Below.refl _ _) (Nat.le_refl _) _⟩
  · skip
    have HB := Below.refl w.heap.size w
    go_enter Try.func10, Try.ntmps10
    go_wp2_with fail
    refine (toInt64S_any a1 n1 c1 x1 _ (h1.to HB) (by omega)).mono ?_
    rintro e W1 ⟨a1r, n1r, c1r, rfl, ho1, hb1⟩
    replace ho1 := ho1.more HB.size
    replace HB := bt HB hb1
    clear hb1
    have hn1 : n1r ≤ 1048576 := by have e1 := ho1.len; have e2 := h1.len; omega
    go_wp2_with fail
    refine (specRowCells_any a0 a1r n1r c1r x1 _ (ho1.rd h1.2) (by omega)).mono ?_
    rintro e W2 ⟨a2r, n2r, c2r, rfl, ho2, hb2⟩
    have ap1_2 := apart_new ho1 ho2
    replace ho1 := ho1.keep hb2
    replace ho2 := ho2.more HB.size
    replace HB := bt HB hb2
    clear hb2
    have hn2 : n2r ≤ 1000000 := by have e1 := ho2.len; have e2 := (rRowCells_ok a0 x1).1; omega
    go_wp2_with fail
    refine (toInt64S_any a1 n1 c1 x1 _ (h1.to HB) (by omega)).mono ?_
    rintro e W3 ⟨a3r, n3r, c3r, rfl, ho3, hb3⟩
    have ap1_3 := apart_new ho1 ho3
    have ap2_3 := apart_new ho2 ho3
    replace ho1 := ho1.keep hb3
    replace ho2 := ho2.keep hb3
    replace ho3 := ho3.more HB.size
    replace HB := bt HB hb3
    clear hb3
    have hn3 : n3r ≤ 1048576 := by have e1 := ho3.len; have e2 := h1.len; omega
    go_wp2_with fail
    refine (implRowCells_any a0 a3r n3r c3r x1 _ (ho3.rd h1.2) (by omega)).mono ?_
    rintro e W4 ⟨a4r, n4r, c4r, rfl, ho4, hb4⟩
    have ap1_4 := apart_new ho1 ho4
    have ap2_4 := apart_new ho2 ho4
    have ap3_4 := apart_new ho3 ho4
    replace ho1 := ho1.keep hb4
    replace ho2 := ho2.keep hb4
    replace ho3 := ho3.keep hb4
    replace ho4 := ho4.more HB.size
    replace HB := bt HB hb4
    clear hb4
    have hn4 : n4r ≤ 1000000 := by have e1 := ho4.len; have e2 := (rRowCells_ok a0 x1).1; omega
    go_wp2_with fail
    refine (eqInt64S_same a4r a2r n4r n2r c4r c2r (rRowCells a0 x1).1 _ (ho4.rd (rRowCells_ok a0 x1).2) (ho2.rd (rRowCells_ok a0 x1).2) (by omega)).mono ?_
    rintro e W5 ⟨rfl, hq5⟩
    replace hq5 := below_q hq5
    replace ho1 := ho1.keep hq5
    replace ho2 := ho2.keep hq5
    replace ho3 := ho3.keep hq5
    replace ho4 := ho4.keep hq5
    replace HB := bt HB hq5
    clear hq5
    go_wp2_with fail
    refine (toInt64S_any a1 n1 c1 x1 _ (h1.to HB) (by omega)).mono ?_
    rintro e W6 ⟨a6r, n6r, c6r, rfl, ho6, hb6⟩
    have ap1_6 := apart_new ho1 ho6
    have ap2_6 := apart_new ho2 ho6
    have ap3_6 := apart_new ho3 ho6
    have ap4_6 := apart_new ho4 ho6
    replace ho1 := ho1.keep hb6
    replace ho2 := ho2.keep hb6
    replace ho3 := ho3.keep hb6
    replace ho4 := ho4.keep hb6
    replace ho6 := ho6.more HB.size
    replace HB := bt HB hb6
    clear hb6
    have hn6 : n6r ≤ 1048576 := by have e1 := ho6.len; have e2 := h1.len; omega
    go_wp2_with fail
    refine (eqInt64S_same a3r a6r n3r n6r c3r c6r x1 _ (ho3.rd h1.2) (ho6.rd h1.2) (by omega)).mono ?_
    rintro e W7 ⟨rfl, hq7⟩
    replace hq7 := below_q hq7
    replace ho1 := ho1.keep hq7
    replace ho2 := ho2.keep hq7
    replace ho3 := ho3.keep hq7
    replace ho4 := ho4.keep hq7
    replace ho6 := ho6.keep hq7
    replace HB := bt HB hq7
    clear hq7
    go_wp2_with fail
    refine (markInt64S_any _ a3r n3r c3r x1 1 _ ho3 (by omega) (by omega) (by omega)).mono ?_
    rintro e W8 ⟨rfl, hm8, hg8⟩
    replace ho1 := ho1.sep hg8 ap1_3
    replace ho2 := ho2.sep hg8 ap2_3
    replace ho4 := ho4.sep hg8 ap3_4.symm
    replace ho6 := ho6.sep hg8 ap3_6.symm
    replace HB := below_mark HB ho3 (Nat.le_refl _) hg8
    replace ho3 := hm8
    clear hm8 hg8
    go_wp2_with fail
    refine (eqInt64S_same a4r a2r n4r n2r c4r c2r (rRowCells a0 x1).1 _ (ho4.rd (rRowCells_ok a0 x1).2) (ho2.rd (rRowCells_ok a0 x1).2) (by omega)).mono ?_
    rintro e W9 ⟨rfl, hq9⟩
    replace hq9 := below_q hq9
    replace ho1 := ho1.keep hq9
    replace ho2 := ho2.keep hq9
    replace ho3 := ho3.keep hq9
    replace ho4 := ho4.keep hq9
    replace ho6 := ho6.keep hq9
    replace HB := bt HB hq9
    clear hq9
    go_wp2_with fail
    refine (markInt64S_any _ a4r n4r c4r (rRowCells a0 x1).1 1 _ ho4 (by omega) (by omega) (by omega)).mono ?_
    rintro e W10 ⟨rfl, hm10, hg10⟩
    replace ho1 := ho1.sep hg10 ap1_4
    replace ho2 := ho2.sep hg10 ap2_4
    replace ho3 := ho3.sep hg10 ap3_4
    replace ho6 := ho6.sep hg10 ap4_6.symm
    replace HB := below_mark HB ho4 (Nat.le_refl _) hg10
    replace ho4 := hm10
    clear hm10 hg10
    go_wp2_with fail
    refine (heldInt64S_seq a4r n4r c4r 1 _ (ho4.rd (seqI_fits 1 n4r (by omega) (by omega))) (by omega) (by omega) (by omega)).mono ?_
    rintro e w' ⟨rfl, rfl⟩
    go_wp2_with fail
    refine (toInt64S_any a1 n1 c1 x1 _ (h1.to HB) (by omega)).mono ?_
    rintro e W11 ⟨a11r, n11r, c11r, rfl, ho11, hb11⟩
    have ap1_11 := apart_new ho1 ho11
    have ap2_11 := apart_new ho2 ho11
    have ap3_11 := apart_new ho3 ho11
    have ap4_11 := apart_new ho4 ho11
    have ap6_11 := apart_new ho6 ho11
    replace ho1 := ho1.keep hb11
    replace ho2 := ho2.keep hb11
    replace ho3 := ho3.keep hb11
    replace ho4 := ho4.keep hb11
    replace ho6 := ho6.keep hb11
    replace ho11 := ho11.more HB.size
    replace HB := bt HB hb11
    clear hb11
    have hn11 : n11r ≤ 1048576 := by have e1 := ho11.len; have e2 := h1.len; omega
    go_wp2_with fail
    refine (implRowCells_any a0 a11r n11r c11r x1 _ (ho11.rd h1.2) (by omega)).mono ?_
    rintro e W12 ⟨a12r, n12r, c12r, rfl, ho12, hb12⟩
    have ap1_12 := apart_new ho1 ho12
    have ap2_12 := apart_new ho2 ho12
    have ap3_12 := apart_new ho3 ho12
    have ap4_12 := apart_new ho4 ho12
    have ap6_12 := apart_new ho6 ho12
    have ap11_12 := apart_new ho11 ho12
    replace ho1 := ho1.keep hb12
    replace ho2 := ho2.keep hb12
    replace ho3 := ho3.keep hb12
    replace ho4 := ho4.keep hb12
    replace ho6 := ho6.keep hb12
    replace ho11 := ho11.keep hb12
    replace ho12 := ho12.more HB.size
    replace HB := bt HB hb12
    clear hb12
    have hn12 : n12r ≤ 1000000 := by have e1 := ho12.len; have e2 := (rRowCells_ok a0 x1).1; omega
    go_wp2_with fail
    refine (eqInt64S_same a12r a2r n12r n2r c12r c2r (rRowCells a0 x1).1 _ (ho12.rd (rRowCells_ok a0 x1).2) (ho2.rd (rRowCells_ok a0 x1).2) (by omega)).mono ?_
    rintro e W13 ⟨rfl, hq13⟩
    replace hq13 := below_q hq13
    replace ho1 := ho1.keep hq13
    replace ho2 := ho2.keep hq13
    replace ho3 := ho3.keep hq13
    replace ho4 := ho4.keep hq13
    replace ho6 := ho6.keep hq13
    replace ho11 := ho11.keep hq13
    replace ho12 := ho12.keep hq13
    replace HB := bt HB hq13
    clear hq13
    go_wp2_with fail
    refine (heldInt64S_seq a4r n4r c4r 1 _ (ho4.rd (seqI_fits 1 n4r (by omega) (by omega))) (by omega) (by omega) (by omega)).mono ?_
    rintro e w' ⟨rfl, rfl⟩
    go_wp2_with fail
    go_ret
    exact ⟨rfl, HB⟩
end Go.Proofs.Ytagdkaigdehohaa
