/-
  The law FnExactFormatPlaces holds at every input.
  Conditions: none.
-/
import Derived.Test.YtckmenjbblgiiaaPlaceB
set_option linter.unusedVariables false
namespace Go.Proofs.Ytckmenjbblgiiaa
open Go.RowKit Go.G8
set_option maxHeartbeats 1000000 in
theorem law_FnExactFormatPlaces (n : Int) (w : World) (h0 : fits .i64 n) :
    Calls Try.prog 4 #[.int .i64 n] w (Ret (.bool true) w) := by
  have hn : -9223372036854775808 ≤ n ∧ n ≤ 9223372036854775807 := h0
  have HB := Below.refl w.heap.size w
  have HS := Lib.hid (fun w => specFormatPlaces_any n w)
  have HI := Lib.hid (fun w => implFormatPlaces_any n w)
  unfold RetPl at HS HI
  generalize (rPlaces n).1 = X at HS HI
  generalize (rPlaces n).2.1 = Y at HS HI
  generalize (rPlaces n).2.2 = K at HS HI
  have hK : (K != K) = false := by simp
  go_enter Try.func4, Try.ntmps4
  go_wp2_with fail
  refine (HS.out _).mono ?_
  rintro e W1 ⟨a1, m1, c1, b1, k1, d1, rfl, hm1, hk1, oa1, ob1, ap1, hq⟩
  replace oa1 := oa1.more HB.size
  replace ob1 := ob1.more HB.size
  replace HB := bt HB hq
  clear hq
  go_wp2_with fail
  refine (HI.out _).mono ?_
  rintro e W2 ⟨a2, m2, c2, b2, k2, d2, rfl, hm2, hk2, oa2, ob2, ap2, hq⟩
  have apa1_a2 := apart_newV oa1 oa2
  have apa1_b2 := apart_newV oa1 ob2
  have apb1_a2 := apart_newV ob1 oa2
  have apb1_b2 := apart_newV ob1 ob2
  replace oa2 := oa2.more HB.size
  replace ob2 := ob2.more HB.size
  replace oa1 := oa1.keep hq
  replace ob1 := ob1.keep hq
  replace HB := bt HB hq
  clear hq
  go_wp2_with fail
  refine (eqPlaceS_same a2 a1 m2 m1 c2 c1 _ _ oa2.rd oa1.rd (by omega)).mono ?_
  rintro e W3 ⟨rfl, hq⟩
  replace oa1 := oa1.keep hq
  replace ob1 := ob1.keep hq
  replace oa2 := oa2.keep hq
  replace ob2 := ob2.keep hq
  replace HB := bt HB hq
  clear hq
  go_wp2_with fail
  refine (eqPlaceS_same b2 b1 k2 k1 d2 d1 _ _ ob2.rd ob1.rd (by omega)).mono ?_
  rintro e W4 ⟨rfl, hq⟩
  replace oa1 := oa1.keep hq
  replace ob1 := ob1.keep hq
  replace oa2 := oa2.keep hq
  replace ob2 := ob2.keep hq
  replace HB := bt HB hq
  clear hq
  go_wp2_with fail
  refine (markPlaceS_any _ a2 m2 c2 _ 1 _ oa2 (by omega) (by omega) (by omega)).mono ?_
  rintro e W5 ⟨rfl, hm, hg⟩
  replace oa1 := oa1.sep hg apa1_a2
  replace ob1 := ob1.sep hg apb1_a2
  replace ob2 := ob2.sep hg (fun g x y => ap2 g y x)
  replace HB := below_markV HB oa2 (Nat.le_refl _) hg
  replace oa2 := hm
  clear hm hg
  go_wp2_with fail
  refine (markPlaceS_any _ b2 k2 d2 _ (1 + ((m2 * 2 : Nat) : Int)) _ ob2 (by omega) (by omega) (by omega)).mono ?_
  rintro e W6 ⟨rfl, hm, hg⟩
  replace oa1 := oa1.sep hg apa1_b2
  replace ob1 := ob1.sep hg apb1_b2
  replace oa2 := oa2.sep hg ap2
  replace HB := below_markV HB ob2 (Nat.le_refl _) hg
  replace ob2 := hm
  clear hm hg
  have hmm : (1 + ((m2 * 2 : Nat) : Int) + ((k2 * 2 : Nat) : Int) != 1 + ((m2 * 2 : Nat) : Int) + ((k2 * 2 : Nat) : Int)) = false := by simp
  go_wp2_with fail
  refine (heldPlaceS_seq a2 m2 c2 1 _ oa2.rd (by omega) (by omega) (by omega)).mono ?_
  rintro e w' ⟨rfl, rfl⟩
  go_wp2_with fail
  refine (heldPlaceS_seq b2 k2 d2 (1 + ((m2 * 2 : Nat) : Int)) _ ob2.rd (by omega) (by omega) (by omega)).mono ?_
  rintro e w' ⟨rfl, rfl⟩
  go_wp2_with fail
  refine (HI.out _).mono ?_
  rintro e W7 ⟨a3, m3, c3, b3, k3, d3, rfl, hm3, hk3, oa3, ob3, ap3, hq⟩
  have apa1_a3 := apart_newV oa1 oa3
  have apa1_b3 := apart_newV oa1 ob3
  have apb1_a3 := apart_newV ob1 oa3
  have apb1_b3 := apart_newV ob1 ob3
  have apa2_a3 := apart_newV oa2 oa3
  have apa2_b3 := apart_newV oa2 ob3
  have apb2_a3 := apart_newV ob2 oa3
  have apb2_b3 := apart_newV ob2 ob3
  replace oa3 := oa3.more HB.size
  replace ob3 := ob3.more HB.size
  replace oa1 := oa1.keep hq
  replace ob1 := ob1.keep hq
  replace oa2 := oa2.keep hq
  replace ob2 := ob2.keep hq
  replace HB := bt HB hq
  clear hq
  go_wp2_with fail
  refine (eqPlaceS_same a3 a1 m3 m1 c3 c1 _ _ oa3.rd oa1.rd (by omega)).mono ?_
  rintro e W8 ⟨rfl, hq⟩
  replace oa1 := oa1.keep hq
  replace ob1 := ob1.keep hq
  replace oa2 := oa2.keep hq
  replace ob2 := ob2.keep hq
  replace oa3 := oa3.keep hq
  replace ob3 := ob3.keep hq
  replace HB := bt HB hq
  clear hq
  go_wp2_with fail
  refine (eqPlaceS_same b3 b1 k3 k1 d3 d1 _ _ ob3.rd ob1.rd (by omega)).mono ?_
  rintro e W9 ⟨rfl, hq⟩
  replace oa1 := oa1.keep hq
  replace ob1 := ob1.keep hq
  replace oa2 := oa2.keep hq
  replace ob2 := ob2.keep hq
  replace oa3 := oa3.keep hq
  replace ob3 := ob3.keep hq
  replace HB := bt HB hq
  clear hq
  go_wp2_with fail
  refine (heldPlaceS_seq a2 m2 c2 1 _ oa2.rd (by omega) (by omega) (by omega)).mono ?_
  rintro e w' ⟨rfl, rfl⟩
  go_wp2_with fail
  refine (heldPlaceS_seq b2 k2 d2 (1 + ((m2 * 2 : Nat) : Int)) _ ob2.rd (by omega) (by omega) (by omega)).mono ?_
  rintro e w' ⟨rfl, rfl⟩
  go_wp2_with fail
  go_ret
  exact ⟨rfl, HB⟩
end Go.Proofs.Ytckmenjbblgiiaa
