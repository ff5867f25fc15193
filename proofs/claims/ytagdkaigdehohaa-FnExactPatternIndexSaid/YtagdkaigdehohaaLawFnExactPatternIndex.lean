/-
  The law FnExactPatternIndex holds at every input.
  Conditions: none.
-/
import Derived.Test.YtagdkaigdehohaaPatJ
set_option linter.unusedVariables false
namespace Go.Proofs.Ytagdkaigdehohaa
open Go.RowKit Go.G8
set_option maxHeartbeats 1000000 in
theorem law_FnExactPatternIndex (a0 : Option Addr) (n0 c0 : Nat) (x0 : List Int) (w : World) (h0 : Rd .i64 w a0 n0 x0) :
    Calls Try.prog 9 #[.slice a0 n0 c0] w (Ret (.bool true) w) := by
  by_cases hbig0 : 1048576 < n0
  · go_enter Try.func9, Try.ntmps9
    go_wp2
    go_ret
    exact ⟨rfl, by first | exact Below.refl _ _ | exact Below.alloc (Below.refl _ _) (Nat.le_refl _) _⟩
  · skip
    have HB := Below.refl w.heap.size w
    go_enter Try.func9, Try.ntmps9
    go_wp2_with fail
    refine (toInt64S_any a0 n0 c0 x0 _ (h0.to HB) (by omega)).mono ?_
    rintro e W1 ⟨a1r, n1r, c1r, rfl, ho1, hb1⟩
    replace ho1 := ho1.more HB.size
    replace HB := bt HB hb1
    clear hb1
    have hn1 : n1r ≤ 1048576 := by have e1 := ho1.len; have e2 := h0.len; omega
    go_wp2_with fail
    refine (specPatternIndex_any a1r n1r c1r x0 _ (ho1.rd h0.2) (by omega)).mono ?_
    rintro e W2 ⟨rfl, hq2⟩
    replace ho1 := ho1.keep hq2
    replace HB := bt HB hq2
    clear hq2
    go_wp2_with fail
    refine (toInt64S_any a0 n0 c0 x0 _ (h0.to HB) (by omega)).mono ?_
    rintro e W3 ⟨a3r, n3r, c3r, rfl, ho3, hb3⟩
    have ap1_3 := apart_new ho1 ho3
    replace ho1 := ho1.keep hb3
    replace ho3 := ho3.more HB.size
    replace HB := bt HB hb3
    clear hb3
    have hn3 : n3r ≤ 1048576 := by have e1 := ho3.len; have e2 := h0.len; omega
    go_wp2_with fail
    refine (implPatternIndex_any a3r n3r c3r x0 _ (ho3.rd h0.2) (by omega)).mono ?_
    rintro e W4 ⟨rfl, hq4⟩
    replace ho1 := ho1.keep hq4
    replace ho3 := ho3.keep hq4
    replace HB := bt HB hq4
    clear hq4
    go_wp2_with fail
    refine (toInt64S_any a0 n0 c0 x0 _ (h0.to HB) (by omega)).mono ?_
    rintro e W5 ⟨a5r, n5r, c5r, rfl, ho5, hb5⟩
    have ap1_5 := apart_new ho1 ho5
    have ap3_5 := apart_new ho3 ho5
    replace ho1 := ho1.keep hb5
    replace ho3 := ho3.keep hb5
    replace ho5 := ho5.more HB.size
    replace HB := bt HB hb5
    clear hb5
    have hn5 : n5r ≤ 1048576 := by have e1 := ho5.len; have e2 := h0.len; omega
    go_wp2_with fail
    refine (eqInt64S_same a3r a5r n3r n5r c3r c5r x0 _ (ho3.rd h0.2) (ho5.rd h0.2) (by omega)).mono ?_
    rintro e W6 ⟨rfl, hq6⟩
    replace hq6 := below_q hq6
    replace ho1 := ho1.keep hq6
    replace ho3 := ho3.keep hq6
    replace ho5 := ho5.keep hq6
    replace HB := bt HB hq6
    clear hq6
    go_wp2_with fail
    go_ret
    exact ⟨rfl, HB⟩
end Go.Proofs.Ytagdkaigdehohaa
