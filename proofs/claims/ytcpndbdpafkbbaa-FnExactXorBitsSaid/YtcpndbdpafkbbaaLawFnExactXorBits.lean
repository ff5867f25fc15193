/-
  The law FnExactXorBits holds at every input.
  Conditions: none.
-/
import Derived.Test.YtcpndbdpafkbbaaL01h
set_option linter.unusedVariables false
namespace Go.Proofs.Ytcpndbdpafkbbaa
open Go.RowKit Go.G8
set_option maxHeartbeats 1000000 in
theorem law_FnExactXorBits (a0 : Option Addr) (n0 c0 : Nat) (x0 : List Int) (a1 : Option Addr) (n1 c1 : Nat) (x1 : List Int) (w : World) (h0 : Rd .i64 w a0 n0 x0) (h1 : Rd .i64 w a1 n1 x1) :
    Calls Try.prog 11 #[.slice a0 n0 c0, .slice a1 n1 c1] w (Ret (.bool true) w) := by
  by_cases hbig0 : 1048576 < n0
  · go_enter Try.func11, Try.ntmps11
    go_wp2
    go_ret
    exact ⟨rfl, Below.refl _ _⟩
  · skip
    by_cases hbig1 : 1048576 < n1
    · go_enter Try.func11, Try.ntmps11
      go_wp2
      go_ret
      exact ⟨rfl, Below.refl _ _⟩
    · skip
      have HB := Below.refl w.heap.size w
      go_enter Try.func11, Try.ntmps11
      go_wp2_with fail
      refine (toInt64S_any a0 n0 c0 x0 _ (h0.to HB) (by omega)).mono ?_
      rintro e W1 ⟨a1r, n1r, c1r, rfl, ho1, hb1⟩
      replace ho1 := ho1.more HB.size
      replace HB := bt HB hb1
      clear hb1
      have hn1 : n1r ≤ 1048576 := by have e1 := ho1.len; have e2 := h0.len; omega
      go_wp2_with fail
      refine (toInt64S_any a1 n1 c1 x1 _ (h1.to HB) (by omega)).mono ?_
      rintro e W2 ⟨a2r, n2r, c2r, rfl, ho2, hb2⟩
      have ap1_2 := apart_new ho1 ho2
      replace ho1 := ho1.keep hb2
      replace ho2 := ho2.more HB.size
      replace HB := bt HB hb2
      clear hb2
      have hn2 : n2r ≤ 1048576 := by have e1 := ho2.len; have e2 := h1.len; omega
      go_wp2_with fail
      refine (specXorBits_any a1r n1r c1r x0 a2r n2r c2r x1 _ (ho1.rd h0.2) (by omega) (ho2.rd h1.2) (by omega)).mono ?_
      rintro e W3 ⟨a3r, n3r, c3r, rfl, ho3, hb3⟩
      have ap1_3 := apart_new ho1 ho3
      have ap2_3 := apart_new ho2 ho3
      replace ho1 := ho1.keep hb3
      replace ho2 := ho2.keep hb3
      replace ho3 := ho3.more HB.size
      replace HB := bt HB hb3
      clear hb3
      have hn3 : n3r ≤ 1000000 := by have e1 := ho3.len; have e2 := (rXorBits_ok x0 x1).1; omega
      go_wp2_with fail
      refine (toInt64S_any a0 n0 c0 x0 _ (h0.to HB) (by omega)).mono ?_
      rintro e W4 ⟨a4r, n4r, c4r, rfl, ho4, hb4⟩
      have ap1_4 := apart_new ho1 ho4
      have ap2_4 := apart_new ho2 ho4
      have ap3_4 := apart_new ho3 ho4
      replace ho1 := ho1.keep hb4
      replace ho2 := ho2.keep hb4
      replace ho3 := ho3.keep hb4
      replace ho4 := ho4.more HB.size
      replace HB := bt HB hb4
      clear hb4
      have hn4 : n4r ≤ 1048576 := by have e1 := ho4.len; have e2 := h0.len; omega
      go_wp2_with fail
      refine (toInt64S_any a1 n1 c1 x1 _ (h1.to HB) (by omega)).mono ?_
      rintro e W5 ⟨a5r, n5r, c5r, rfl, ho5, hb5⟩
      have ap1_5 := apart_new ho1 ho5
      have ap2_5 := apart_new ho2 ho5
      have ap3_5 := apart_new ho3 ho5
      have ap4_5 := apart_new ho4 ho5
      replace ho1 := ho1.keep hb5
      replace ho2 := ho2.keep hb5
      replace ho3 := ho3.keep hb5
      replace ho4 := ho4.keep hb5
      replace ho5 := ho5.more HB.size
      replace HB := bt HB hb5
      clear hb5
      have hn5 : n5r ≤ 1048576 := by have e1 := ho5.len; have e2 := h1.len; omega
      go_wp2_with fail
      refine (implXorBits_any a4r n4r c4r x0 a5r n5r c5r x1 _ (ho4.rd h0.2) (by omega) (ho5.rd h1.2) (by omega)).mono ?_
      rintro e W6 ⟨a6r, n6r, c6r, rfl, ho6, hb6⟩
      have ap1_6 := apart_new ho1 ho6
      have ap2_6 := apart_new ho2 ho6
      have ap3_6 := apart_new ho3 ho6
      have ap4_6 := apart_new ho4 ho6
      have ap5_6 := apart_new ho5 ho6
      replace ho1 := ho1.keep hb6
      replace ho2 := ho2.keep hb6
      replace ho3 := ho3.keep hb6
      replace ho4 := ho4.keep hb6
      replace ho5 := ho5.keep hb6
      replace ho6 := ho6.more HB.size
      replace HB := bt HB hb6
      clear hb6
      have hn6 : n6r ≤ 1000000 := by have e1 := ho6.len; have e2 := (rXorBits_ok x0 x1).1; omega
      go_wp2_with fail
      refine (eqInt64S_same a6r a3r n6r n3r c6r c3r (rXorBits x0 x1).1 _ (ho6.rd (rXorBits_ok x0 x1).2) (ho3.rd (rXorBits_ok x0 x1).2) (by omega)).mono ?_
      rintro e W7 ⟨rfl, hq7⟩
      replace hq7 := below_q hq7
      replace ho1 := ho1.keep hq7
      replace ho2 := ho2.keep hq7
      replace ho3 := ho3.keep hq7
      replace ho4 := ho4.keep hq7
      replace ho5 := ho5.keep hq7
      replace ho6 := ho6.keep hq7
      replace HB := bt HB hq7
      clear hq7
      go_wp2_with fail
      refine (toInt64S_any a0 n0 c0 x0 _ (h0.to HB) (by omega)).mono ?_
      rintro e W8 ⟨a8r, n8r, c8r, rfl, ho8, hb8⟩
      have ap1_8 := apart_new ho1 ho8
      have ap2_8 := apart_new ho2 ho8
      have ap3_8 := apart_new ho3 ho8
      have ap4_8 := apart_new ho4 ho8
      have ap5_8 := apart_new ho5 ho8
      have ap6_8 := apart_new ho6 ho8
      replace ho1 := ho1.keep hb8
      replace ho2 := ho2.keep hb8
      replace ho3 := ho3.keep hb8
      replace ho4 := ho4.keep hb8
      replace ho5 := ho5.keep hb8
      replace ho6 := ho6.keep hb8
      replace ho8 := ho8.more HB.size
      replace HB := bt HB hb8
      clear hb8
      have hn8 : n8r ≤ 1048576 := by have e1 := ho8.len; have e2 := h0.len; omega
      go_wp2_with fail
      refine (eqInt64S_same a4r a8r n4r n8r c4r c8r x0 _ (ho4.rd h0.2) (ho8.rd h0.2) (by omega)).mono ?_
      rintro e W9 ⟨rfl, hq9⟩
      replace hq9 := below_q hq9
      replace ho1 := ho1.keep hq9
      replace ho2 := ho2.keep hq9
      replace ho3 := ho3.keep hq9
      replace ho4 := ho4.keep hq9
      replace ho5 := ho5.keep hq9
      replace ho6 := ho6.keep hq9
      replace ho8 := ho8.keep hq9
      replace HB := bt HB hq9
      clear hq9
      go_wp2_with fail
      refine (toInt64S_any a1 n1 c1 x1 _ (h1.to HB) (by omega)).mono ?_
      rintro e W10 ⟨a10r, n10r, c10r, rfl, ho10, hb10⟩
      have ap1_10 := apart_new ho1 ho10
      have ap2_10 := apart_new ho2 ho10
      have ap3_10 := apart_new ho3 ho10
      have ap4_10 := apart_new ho4 ho10
      have ap5_10 := apart_new ho5 ho10
      have ap6_10 := apart_new ho6 ho10
      have ap8_10 := apart_new ho8 ho10
      replace ho1 := ho1.keep hb10
      replace ho2 := ho2.keep hb10
      replace ho3 := ho3.keep hb10
      replace ho4 := ho4.keep hb10
      replace ho5 := ho5.keep hb10
      replace ho6 := ho6.keep hb10
      replace ho8 := ho8.keep hb10
      replace ho10 := ho10.more HB.size
      replace HB := bt HB hb10
      clear hb10
      have hn10 : n10r ≤ 1048576 := by have e1 := ho10.len; have e2 := h1.len; omega
      go_wp2_with fail
      refine (eqInt64S_same a5r a10r n5r n10r c5r c10r x1 _ (ho5.rd h1.2) (ho10.rd h1.2) (by omega)).mono ?_
      rintro e W11 ⟨rfl, hq11⟩
      replace hq11 := below_q hq11
      replace ho1 := ho1.keep hq11
      replace ho2 := ho2.keep hq11
      replace ho3 := ho3.keep hq11
      replace ho4 := ho4.keep hq11
      replace ho5 := ho5.keep hq11
      replace ho6 := ho6.keep hq11
      replace ho8 := ho8.keep hq11
      replace ho10 := ho10.keep hq11
      replace HB := bt HB hq11
      clear hq11
      go_wp2_with fail
      refine (markInt64S_any _ a4r n4r c4r x0 1 _ ho4 (by omega) (by omega) (by omega)).mono ?_
      rintro e W12 ⟨rfl, hm12, hg12⟩
      replace ho1 := ho1.sep hg12 ap1_4
      replace ho2 := ho2.sep hg12 ap2_4
      replace ho3 := ho3.sep hg12 ap3_4
      replace ho5 := ho5.sep hg12 ap4_5.symm
      replace ho6 := ho6.sep hg12 ap4_6.symm
      replace ho8 := ho8.sep hg12 ap4_8.symm
      replace ho10 := ho10.sep hg12 ap4_10.symm
      replace HB := below_mark HB ho4 (Nat.le_refl _) hg12
      replace ho4 := hm12
      clear hm12 hg12
      go_wp2_with fail
      refine (markInt64S_any _ a5r n5r c5r x1 (1 + (n4r : Int)) _ ho5 (by omega) (by omega) (by omega)).mono ?_
      rintro e W13 ⟨rfl, hm13, hg13⟩
      replace ho1 := ho1.sep hg13 ap1_5
      replace ho2 := ho2.sep hg13 ap2_5
      replace ho3 := ho3.sep hg13 ap3_5
      replace ho4 := ho4.sep hg13 ap4_5
      replace ho6 := ho6.sep hg13 ap5_6.symm
      replace ho8 := ho8.sep hg13 ap5_8.symm
      replace ho10 := ho10.sep hg13 ap5_10.symm
      replace HB := below_mark HB ho5 (Nat.le_refl _) hg13
      replace ho5 := hm13
      clear hm13 hg13
      go_wp2_with fail
      refine (eqInt64S_same a6r a3r n6r n3r c6r c3r (rXorBits x0 x1).1 _ (ho6.rd (rXorBits_ok x0 x1).2) (ho3.rd (rXorBits_ok x0 x1).2) (by omega)).mono ?_
      rintro e W14 ⟨rfl, hq14⟩
      replace hq14 := below_q hq14
      replace ho1 := ho1.keep hq14
      replace ho2 := ho2.keep hq14
      replace ho3 := ho3.keep hq14
      replace ho4 := ho4.keep hq14
      replace ho5 := ho5.keep hq14
      replace ho6 := ho6.keep hq14
      replace ho8 := ho8.keep hq14
      replace ho10 := ho10.keep hq14
      replace HB := bt HB hq14
      clear hq14
      go_wp2_with fail
      refine (markInt64S_any _ a6r n6r c6r (rXorBits x0 x1).1 1 _ ho6 (by omega) (by omega) (by omega)).mono ?_
      rintro e W15 ⟨rfl, hm15, hg15⟩
      replace ho1 := ho1.sep hg15 ap1_6
      replace ho2 := ho2.sep hg15 ap2_6
      replace ho3 := ho3.sep hg15 ap3_6
      replace ho4 := ho4.sep hg15 ap4_6
      replace ho5 := ho5.sep hg15 ap5_6
      replace ho8 := ho8.sep hg15 ap6_8.symm
      replace ho10 := ho10.sep hg15 ap6_10.symm
      replace HB := below_mark HB ho6 (Nat.le_refl _) hg15
      replace ho6 := hm15
      clear hm15 hg15
      go_wp2_with fail
      refine (heldInt64S_seq a6r n6r c6r 1 _ (ho6.rd (seqI_fits 1 n6r (by omega) (by omega))) (by omega) (by omega) (by omega)).mono ?_
      rintro e w' ⟨rfl, rfl⟩
      go_wp2_with fail
      refine (toInt64S_any a0 n0 c0 x0 _ (h0.to HB) (by omega)).mono ?_
      rintro e W16 ⟨a16r, n16r, c16r, rfl, ho16, hb16⟩
      have ap1_16 := apart_new ho1 ho16
      have ap2_16 := apart_new ho2 ho16
      have ap3_16 := apart_new ho3 ho16
      have ap4_16 := apart_new ho4 ho16
      have ap5_16 := apart_new ho5 ho16
      have ap6_16 := apart_new ho6 ho16
      have ap8_16 := apart_new ho8 ho16
      have ap10_16 := apart_new ho10 ho16
      replace ho1 := ho1.keep hb16
      replace ho2 := ho2.keep hb16
      replace ho3 := ho3.keep hb16
      replace ho4 := ho4.keep hb16
      replace ho5 := ho5.keep hb16
      replace ho6 := ho6.keep hb16
      replace ho8 := ho8.keep hb16
      replace ho10 := ho10.keep hb16
      replace ho16 := ho16.more HB.size
      replace HB := bt HB hb16
      clear hb16
      have hn16 : n16r ≤ 1048576 := by have e1 := ho16.len; have e2 := h0.len; omega
      go_wp2_with fail
      refine (toInt64S_any a1 n1 c1 x1 _ (h1.to HB) (by omega)).mono ?_
      rintro e W17 ⟨a17r, n17r, c17r, rfl, ho17, hb17⟩
      have ap1_17 := apart_new ho1 ho17
      have ap2_17 := apart_new ho2 ho17
      have ap3_17 := apart_new ho3 ho17
      have ap4_17 := apart_new ho4 ho17
      have ap5_17 := apart_new ho5 ho17
      have ap6_17 := apart_new ho6 ho17
      have ap8_17 := apart_new ho8 ho17
      have ap10_17 := apart_new ho10 ho17
      have ap16_17 := apart_new ho16 ho17
      replace ho1 := ho1.keep hb17
      replace ho2 := ho2.keep hb17
      replace ho3 := ho3.keep hb17
      replace ho4 := ho4.keep hb17
      replace ho5 := ho5.keep hb17
      replace ho6 := ho6.keep hb17
      replace ho8 := ho8.keep hb17
      replace ho10 := ho10.keep hb17
      replace ho16 := ho16.keep hb17
      replace ho17 := ho17.more HB.size
      replace HB := bt HB hb17
      clear hb17
      have hn17 : n17r ≤ 1048576 := by have e1 := ho17.len; have e2 := h1.len; omega
      go_wp2_with fail
      refine (implXorBits_any a16r n16r c16r x0 a17r n17r c17r x1 _ (ho16.rd h0.2) (by omega) (ho17.rd h1.2) (by omega)).mono ?_
      rintro e W18 ⟨a18r, n18r, c18r, rfl, ho18, hb18⟩
      have ap1_18 := apart_new ho1 ho18
      have ap2_18 := apart_new ho2 ho18
      have ap3_18 := apart_new ho3 ho18
      have ap4_18 := apart_new ho4 ho18
      have ap5_18 := apart_new ho5 ho18
      have ap6_18 := apart_new ho6 ho18
      have ap8_18 := apart_new ho8 ho18
      have ap10_18 := apart_new ho10 ho18
      have ap16_18 := apart_new ho16 ho18
      have ap17_18 := apart_new ho17 ho18
      replace ho1 := ho1.keep hb18
      replace ho2 := ho2.keep hb18
      replace ho3 := ho3.keep hb18
      replace ho4 := ho4.keep hb18
      replace ho5 := ho5.keep hb18
      replace ho6 := ho6.keep hb18
      replace ho8 := ho8.keep hb18
      replace ho10 := ho10.keep hb18
      replace ho16 := ho16.keep hb18
      replace ho17 := ho17.keep hb18
      replace ho18 := ho18.more HB.size
      replace HB := bt HB hb18
      clear hb18
      have hn18 : n18r ≤ 1000000 := by have e1 := ho18.len; have e2 := (rXorBits_ok x0 x1).1; omega
      go_wp2_with fail
      refine (eqInt64S_same a18r a3r n18r n3r c18r c3r (rXorBits x0 x1).1 _ (ho18.rd (rXorBits_ok x0 x1).2) (ho3.rd (rXorBits_ok x0 x1).2) (by omega)).mono ?_
      rintro e W19 ⟨rfl, hq19⟩
      replace hq19 := below_q hq19
      replace ho1 := ho1.keep hq19
      replace ho2 := ho2.keep hq19
      replace ho3 := ho3.keep hq19
      replace ho4 := ho4.keep hq19
      replace ho5 := ho5.keep hq19
      replace ho6 := ho6.keep hq19
      replace ho8 := ho8.keep hq19
      replace ho10 := ho10.keep hq19
      replace ho16 := ho16.keep hq19
      replace ho17 := ho17.keep hq19
      replace ho18 := ho18.keep hq19
      replace HB := bt HB hq19
      clear hq19
      go_wp2_with fail
      refine (heldInt64S_seq a6r n6r c6r 1 _ (ho6.rd (seqI_fits 1 n6r (by omega) (by omega))) (by omega) (by omega) (by omega)).mono ?_
      rintro e w' ⟨rfl, rfl⟩
      go_wp2_with fail
      go_ret
      exact ⟨rfl, HB⟩
end Go.Proofs.Ytcpndbdpafkbbaa
