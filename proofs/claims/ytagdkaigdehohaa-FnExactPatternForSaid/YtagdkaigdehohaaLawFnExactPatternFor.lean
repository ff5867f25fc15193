/-
  The law FnExactPatternFor holds at every input.
  Conditions: none.
-/
import Derived.Test.YtagdkaigdehohaaPatD
set_option linter.unusedVariables false
namespace Go.Proofs.Ytagdkaigdehohaa
open Go.RowKit Go.G8
set_option maxHeartbeats 1000000 in
theorem law_FnExactPatternFor (a0 : Int) (a1 : Int) (w : World) (h0 : fits .i64 a0) (h1 : fits .i64 a1) :
    Calls Try.prog 8 #[.int .i64 a0, .int .i64 a1] w (Ret (.bool true) w) := by
  have hi_a0 : -9223372036854775808 ≤ a0 ∧ a0 ≤ 9223372036854775807 := h0
  have hi_a1 : -9223372036854775808 ≤ a1 ∧ a1 ≤ 9223372036854775807 := h1
  have HB := Below.refl w.heap.size w
  go_enter Try.func8, Try.ntmps8
  go_wp2_with fail
  refine (specPatternFor_any a0 a1 _ ).mono ?_
  rintro e W1 ⟨a1r, n1r, c1r, rfl, ho1, hb1⟩
  replace ho1 := ho1.more HB.size
  replace HB := bt HB hb1
  clear hb1
  have hn1 : n1r ≤ 1000000 := by have e1 := ho1.len; have e2 := (rPatternFor_ok a0 a1).1; omega
  go_wp2_with fail
  refine (implPatternFor_any a0 a1 _ ).mono ?_
  rintro e W2 ⟨a2r, n2r, c2r, rfl, ho2, hb2⟩
  have ap1_2 := apart_new ho1 ho2
  replace ho1 := ho1.keep hb2
  replace ho2 := ho2.more HB.size
  replace HB := bt HB hb2
  clear hb2
  have hn2 : n2r ≤ 1000000 := by have e1 := ho2.len; have e2 := (rPatternFor_ok a0 a1).1; omega
  go_wp2_with fail
  refine (eqInt64S_same a2r a1r n2r n1r c2r c1r (rPatternFor a0 a1).1 _ (ho2.rd (rPatternFor_ok a0 a1).2) (ho1.rd (rPatternFor_ok a0 a1).2) (by omega)).mono ?_
  rintro e W3 ⟨rfl, hq3⟩
  replace hq3 := below_q hq3
  replace ho1 := ho1.keep hq3
  replace ho2 := ho2.keep hq3
  replace HB := bt HB hq3
  clear hq3
  go_wp2_with fail
  refine (markInt64S_any _ a2r n2r c2r (rPatternFor a0 a1).1 1 _ ho2 (by omega) (by omega) (by omega)).mono ?_
  rintro e W4 ⟨rfl, hm4, hg4⟩
  replace ho1 := ho1.sep hg4 ap1_2
  replace HB := below_mark HB ho2 (Nat.le_refl _) hg4
  replace ho2 := hm4
  clear hm4 hg4
  go_wp2_with fail
  refine (heldInt64S_seq a2r n2r c2r 1 _ (ho2.rd (seqI_fits 1 n2r (by omega) (by omega))) (by omega) (by omega) (by omega)).mono ?_
  rintro e w' ⟨rfl, rfl⟩
  go_wp2_with fail
  refine (implPatternFor_any a0 a1 _ ).mono ?_
  rintro e W5 ⟨a5r, n5r, c5r, rfl, ho5, hb5⟩
  have ap1_5 := apart_new ho1 ho5
  have ap2_5 := apart_new ho2 ho5
  replace ho1 := ho1.keep hb5
  replace ho2 := ho2.keep hb5
  replace ho5 := ho5.more HB.size
  replace HB := bt HB hb5
  clear hb5
  have hn5 : n5r ≤ 1000000 := by have e1 := ho5.len; have e2 := (rPatternFor_ok a0 a1).1; omega
  go_wp2_with fail
  refine (eqInt64S_same a5r a1r n5r n1r c5r c1r (rPatternFor a0 a1).1 _ (ho5.rd (rPatternFor_ok a0 a1).2) (ho1.rd (rPatternFor_ok a0 a1).2) (by omega)).mono ?_
  rintro e W6 ⟨rfl, hq6⟩
  replace hq6 := below_q hq6
  replace ho1 := ho1.keep hq6
  replace ho2 := ho2.keep hq6
  replace ho5 := ho5.keep hq6
  replace HB := bt HB hq6
  clear hq6
  go_wp2_with fail
  refine (heldInt64S_seq a2r n2r c2r 1 _ (ho2.rd (seqI_fits 1 n2r (by omega) (by omega))) (by omega) (by omega) (by omega)).mono ?_
  rintro e w' ⟨rfl, rfl⟩
  go_wp2_with fail
  go_ret
  exact ⟨rfl, HB⟩
end Go.Proofs.Ytagdkaigdehohaa
