/-
  The law FnExactWordDistance holds at every input.
  Conditions: none.
-/
import Derived.Test.YtcpndbdpafkbbaaL01h
set_option linter.unusedVariables false
namespace Go.Proofs.Ytcpndbdpafkbbaa
open Go.RowKit Go.G8
set_option maxHeartbeats 1000000 in
theorem law_FnExactWordDistance (a0 : Option Addr) (n0 c0 : Nat) (x0 : List Int) (a1 : Option Addr) (n1 c1 : Nat) (x1 : List Int) (w : World) (h0 : Rd .i64 w a0 n0 x0) (h1 : Rd .i64 w a1 n1 x1) :
    Calls Try.prog 4 #[.slice a0 n0 c0, .slice a1 n1 c1] w (Ret (.bool true) w) := by
  by_cases hbig0 : 1048576 < n0
  · go_enter Try.func4, Try.ntmps4
    go_wp2
    go_ret
    exact ⟨rfl, Below.refl _ _⟩
  · skip
    by_cases hbig1 : 1048576 < n1
    · go_enter Try.func4, Try.ntmps4
      go_wp2
      go_ret
      exact ⟨rfl, Below.refl _ _⟩
    · skip
      have HB := Below.refl w.heap.size w
      go_enter Try.func4, Try.ntmps4
      go_wp2_with fail
      refine (toInt64S_any a0 n0 c0 x0 _ (h0.to HB) (by omega)).mono ?_
      rintro e W1 ⟨a1r, n1r, c1r, rfl, ho1, hb1⟩
      replace ho1 := ho1.more HB.size
      replace HB := bt HB hb1
      clear hb1
      have hn1 : n1r ≤ 1048576 := by have e1 := ho1.len; have e2 := h0.len; omega
      go_wp2_with fail
      refine (toInt64S_any a1 n1 c1 x1 _ (h1.to HB) (by omega)).mono ?_
      rintro e W2 ⟨a2r, n2r, c2r, rfl, ho2, hb2⟩
      have ap1_2 := apart_new ho1 ho2
      replace ho1 := ho1.keep hb2
      replace ho2 := ho2.more HB.size
      replace HB := bt HB hb2
      clear hb2
      have hn2 : n2r ≤ 1048576 := by have e1 := ho2.len; have e2 := h1.len; omega
      go_wp2_with fail
      refine (specWordDistance_any a1r n1r c1r x0 a2r n2r c2r x1 _ (ho1.rd h0.2) (by omega) (ho2.rd h1.2) (by omega)).mono ?_
      rintro e W3 ⟨rfl, hq3⟩
      replace ho1 := ho1.keep hq3
      replace ho2 := ho2.keep hq3
      replace HB := bt HB hq3
      clear hq3
      go_wp2_with fail
      refine (toInt64S_any a0 n0 c0 x0 _ (h0.to HB) (by omega)).mono ?_
      rintro e W4 ⟨a4r, n4r, c4r, rfl, ho4, hb4⟩
      have ap1_4 := apart_new ho1 ho4
      have ap2_4 := apart_new ho2 ho4
      replace ho1 := ho1.keep hb4
      replace ho2 := ho2.keep hb4
      replace ho4 := ho4.more HB.size
      replace HB := bt HB hb4
      clear hb4
      have hn4 : n4r ≤ 1048576 := by have e1 := ho4.len; have e2 := h0.len; omega
      go_wp2_with fail
      refine (toInt64S_any a1 n1 c1 x1 _ (h1.to HB) (by omega)).mono ?_
      rintro e W5 ⟨a5r, n5r, c5r, rfl, ho5, hb5⟩
      have ap1_5 := apart_new ho1 ho5
      have ap2_5 := apart_new ho2 ho5
      have ap4_5 := apart_new ho4 ho5
      replace ho1 := ho1.keep hb5
      replace ho2 := ho2.keep hb5
      replace ho4 := ho4.keep hb5
      replace ho5 := ho5.more HB.size
      replace HB := bt HB hb5
      clear hb5
      have hn5 : n5r ≤ 1048576 := by have e1 := ho5.len; have e2 := h1.len; omega
      go_wp2_with fail
      refine (implWordDistance_any a4r n4r c4r x0 a5r n5r c5r x1 _ (ho4.rd h0.2) (by omega) (ho5.rd h1.2) (by omega)).mono ?_
      rintro e W6 ⟨rfl, hq6⟩
      replace ho1 := ho1.keep hq6
      replace ho2 := ho2.keep hq6
      replace ho4 := ho4.keep hq6
      replace ho5 := ho5.keep hq6
      replace HB := bt HB hq6
      clear hq6
      go_wp2_with fail
      refine (toInt64S_any a0 n0 c0 x0 _ (h0.to HB) (by omega)).mono ?_
      rintro e W7 ⟨a7r, n7r, c7r, rfl, ho7, hb7⟩
      have ap1_7 := apart_new ho1 ho7
      have ap2_7 := apart_new ho2 ho7
      have ap4_7 := apart_new ho4 ho7
      have ap5_7 := apart_new ho5 ho7
      replace ho1 := ho1.keep hb7
      replace ho2 := ho2.keep hb7
      replace ho4 := ho4.keep hb7
      replace ho5 := ho5.keep hb7
      replace ho7 := ho7.more HB.size
      replace HB := bt HB hb7
      clear hb7
      have hn7 : n7r ≤ 1048576 := by have e1 := ho7.len; have e2 := h0.len; omega
      go_wp2_with fail
      refine (eqInt64S_same a4r a7r n4r n7r c4r c7r x0 _ (ho4.rd h0.2) (ho7.rd h0.2) (by omega)).mono ?_
      rintro e W8 ⟨rfl, hq8⟩
      replace hq8 := below_q hq8
      replace ho1 := ho1.keep hq8
      replace ho2 := ho2.keep hq8
      replace ho4 := ho4.keep hq8
      replace ho5 := ho5.keep hq8
      replace ho7 := ho7.keep hq8
      replace HB := bt HB hq8
      clear hq8
      go_wp2_with fail
      refine (toInt64S_any a1 n1 c1 x1 _ (h1.to HB) (by omega)).mono ?_
      rintro e W9 ⟨a9r, n9r, c9r, rfl, ho9, hb9⟩
      have ap1_9 := apart_new ho1 ho9
      have ap2_9 := apart_new ho2 ho9
      have ap4_9 := apart_new ho4 ho9
      have ap5_9 := apart_new ho5 ho9
      have ap7_9 := apart_new ho7 ho9
      replace ho1 := ho1.keep hb9
      replace ho2 := ho2.keep hb9
      replace ho4 := ho4.keep hb9
      replace ho5 := ho5.keep hb9
      replace ho7 := ho7.keep hb9
      replace ho9 := ho9.more HB.size
      replace HB := bt HB hb9
      clear hb9
      have hn9 : n9r ≤ 1048576 := by have e1 := ho9.len; have e2 := h1.len; omega
      go_wp2_with fail
      refine (eqInt64S_same a5r a9r n5r n9r c5r c9r x1 _ (ho5.rd h1.2) (ho9.rd h1.2) (by omega)).mono ?_
      rintro e W10 ⟨rfl, hq10⟩
      replace hq10 := below_q hq10
      replace ho1 := ho1.keep hq10
      replace ho2 := ho2.keep hq10
      replace ho4 := ho4.keep hq10
      replace ho5 := ho5.keep hq10
      replace ho7 := ho7.keep hq10
      replace ho9 := ho9.keep hq10
      replace HB := bt HB hq10
      clear hq10
      go_wp2_with fail
      go_ret
      exact ⟨rfl, HB⟩
end Go.Proofs.Ytcpndbdpafkbbaa
