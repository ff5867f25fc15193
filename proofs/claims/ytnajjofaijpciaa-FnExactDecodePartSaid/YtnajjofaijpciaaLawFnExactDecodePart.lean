/-
  The law FnExactDecodePart holds at every input.
  Conditions: none.
-/
import Derived.Test.YtnajjofaijpciaaDecPart
import Derived.Test.YtnajjofaijpciaaFieldT
import Derived.Test.YtnajjofaijpciaaLib
set_option linter.unusedVariables false
namespace Go.Proofs.Ytnajjofaijpciaa
open Go.RowKit Go.G8
set_option maxHeartbeats 1000000 in
theorem eqPartD_same (p : PartD) (w : World) :
    Calls Try.prog 24 #[.agg #[.int .i64 p.ix, .int .i64 p.ct, .int .i64 p.pr, .string p.tx], .agg #[.int .i64 p.ix, .int .i64 p.ct, .int .i64 p.pr, .string p.tx]] w (Ret (.bool true) w) := by
  have hne : (p.tx.toList != p.tx.toList) = false := by simp
  go_enter Try.func24, Try.ntmps24
  go_wp2_with fail
  go_ret
  exact ⟨rfl, ((Below.refl _ _).alloc (Nat.le_refl _) _).alloc (by simp) _⟩
set_option maxHeartbeats 1000000 in
theorem law_FnExactDecodePart (f00 f01 f02 : Int) (a1 : Option Addr) (n1 c1 : Nat) (x1 : List Int) (w : World) (hf00 : fits .i64 f00) (hf01 : fits .i64 f01) (hf02 : fits .i64 f02) (h1 : Rd .i64 w a1 n1 x1) :
    Calls Try.prog 6 #[.agg #[.int .i64 f00, .int .i64 f01, .int .i64 f02], .slice a1 n1 c1] w (Ret (.bool true) w) := by
  by_cases hbig0 : 1048576 < n1
  · go_enter Try.func6, Try.ntmps6
    go_wp2
    go_ret
    exact ⟨rfl, by first | exact Below.refl _ _ | exact Below.alloc (Below.refl _ _) (Nat.le_refl _) _⟩
  · skip
    have HSp := Lib.hid (fun a n c w h hn => specDecodePart_any f00 f01 f02 a n c x1 w h hn)
    have HIm := Lib.hid (fun a n c w h hn => implDecodePart_any f00 f01 f02 a n c x1 w h hn)
    obtain ⟨R, hR⟩ : ∃ R, rPart f00 f01 f02 x1 = R := ⟨_, rfl⟩
    rw [hR] at HSp HIm
    obtain ⟨P, code⟩ := R
    have HEq := Lib.hid (fun w => eqPartD_same P w)
    have hpv : partVal P code = .tuple #[.agg #[.int .i64 P.ix, .int .i64 P.ct, .int .i64 P.pr, .string P.tx], .int .i64 code] := rfl
    simp only [hpv] at HSp HIm
    clear hR
    have e2 : (code != code) = false := by simp
    go_enter Try.func6, Try.ntmps6
    go_wp2_with fail
    have hw0 : Below w.heap.size w (w.alloc (.cells #[.int .i64 f00, .int .i64 f01, .int .i64 f02] 32)) := Below.alloc (Below.refl _ _) (Nat.le_refl _) _
    have hlt0 : w.heap.size < (w.alloc (.cells #[.int .i64 f00, .int .i64 f01, .int .i64 f02] 32)).heap.size := by simp
    have cc0 : (w.alloc (.cells #[.int .i64 f00, .int .i64 f01, .int .i64 f02] 32)).cell? ⟨w.heap.size, 0, none⟩ = some (.int .i64 f00) := by rw [cell_of_row _ _ _ _ _ (0, 0) (heap_alloc_new w _)]; rfl
    have cc1 : (w.alloc (.cells #[.int .i64 f00, .int .i64 f01, .int .i64 f02] 32)).cell? ⟨w.heap.size, 1, none⟩ = some (.int .i64 f01) := by rw [cell_of_row _ _ _ _ _ (0, 0) (heap_alloc_new w _)]; rfl
    have cc2 : (w.alloc (.cells #[.int .i64 f00, .int .i64 f01, .int .i64 f02] 32)).cell? ⟨w.heap.size, 2, none⟩ = some (.int .i64 f02) := by rw [cell_of_row _ _ _ _ _ (0, 0) (heap_alloc_new w _)]; rfl
    generalize (w.alloc (.cells #[.int .i64 f00, .int .i64 f01, .int .i64 f02] 32)) = W0 at *
    replace h1 := h1.to hw0
    have HB := Below.refl W0.heap.size W0
    refine (toField_any f00 f01 f02 _).mono ?_
    rintro e W1 ⟨rfl, hq1⟩
    replace HB := bt HB hq1
    clear hq1
    go_wp2_with fail
    refine (toInt64S_any a1 n1 c1 x1 _ (h1.to HB) (by omega)).mono ?_
    rintro e W2 ⟨a2r, n2r, c2r, rfl, ho2, hb2⟩
    replace ho2 := ho2.more HB.size
    replace HB := bt HB hb2
    clear hb2
    have hn2 : n2r ≤ 1048576 := by have e1 := ho2.len; have e2 := h1.len; omega
    go_wp2_with fail
    refine (HSp.out a2r n2r c2r _ (ho2.rd h1.2) (by omega)).mono ?_
    rintro e W3 ⟨rfl, hq3⟩
    replace HB := bt HB hq3
    clear hq3 ho2
    have hA := Below.alloc (Below.refl W3.heap.size W3) (Nat.le_refl _) (.cells #[.int .i64 P.ix, .int .i64 P.ct, .int .i64 P.pr, .string P.tx] 45)
    have SA := Slot4.new W3 (.int .i64 P.ix) (.int .i64 P.ct) (.int .i64 P.pr) (.string P.tx) 45
    replace HB := bt HB hA
    clear hA
    go_wp2_with fail
    refine (toInt64S_any a1 n1 c1 x1 _ (h1.to HB) (by omega)).mono ?_
    rintro e W4 ⟨a4r, n4r, c4r, rfl, ho4, hb4⟩
    replace ho4 := ho4.more HB.size
    replace SA := SA.keep hb4
    replace HB := bt HB hb4
    clear hb4
    have hn4 : n4r ≤ 1048576 := by have e1 := ho4.len; have e2 := h1.len; omega
    have d0 := (HB.cell (p := ⟨w.heap.size, 0, none⟩) hlt0).trans cc0
    have d1 := (HB.cell (p := ⟨w.heap.size, 1, none⟩) hlt0).trans cc1
    have d2 := (HB.cell (p := ⟨w.heap.size, 2, none⟩) hlt0).trans cc2
    go_wp2_with fail
    refine (toField_any f00 f01 f02 _).mono ?_
    rintro e W5 ⟨rfl, hq5⟩
    clear d0 d1 d2
    replace ho4 := ho4.keep hq5
    replace SA := SA.keep hq5
    replace HB := bt HB hq5
    clear hq5
    go_wp2_with fail
    refine (HIm.out a4r n4r c4r _ (ho4.rd h1.2) (by omega)).mono ?_
    rintro e W6 ⟨rfl, hq6⟩
    replace ho4 := ho4.keep hq6
    replace SA := SA.keep hq6
    replace HB := bt HB hq6
    clear hq6
    have hA := Below.alloc (Below.refl W6.heap.size W6) (Nat.le_refl _) (.cells #[.int .i64 P.ix, .int .i64 P.ct, .int .i64 P.pr, .string P.tx] 45)
    have SB := Slot4.new W6 (.int .i64 P.ix) (.int .i64 P.ct) (.int .i64 P.pr) (.string P.tx) 45
    replace SA := SA.keep hA
    replace ho4 := ho4.keep hA
    replace HB := bt HB hA
    clear hA
    obtain ⟨s0, s1, s2, s3, s4, s5⟩ := SA
    obtain ⟨t0, t1, t2, t3, t4, t5⟩ := SB
    go_wp2_with fail
    refine (HEq.out _).mono ?_
    rintro e W7 ⟨rfl, hq7⟩
    replace ho4 := ho4.keep hq7
    replace HB := bt HB hq7
    clear hq7 s0 s1 s2 s3 s4 s5 t0 t1 t2 t3 t4 t5
    go_wp2_with fail
    refine (toInt64S_any a1 n1 c1 x1 _ (h1.to HB) (by omega)).mono ?_
    rintro e W8 ⟨a8r, n8r, c8r, rfl, ho8, hb8⟩
    replace ho4 := ho4.keep hb8
    replace ho8 := ho8.more HB.size
    replace HB := bt HB hb8
    clear hb8
    have hn8 : n8r ≤ 1048576 := by have e1 := ho8.len; have e2 := h1.len; omega
    go_wp2_with fail
    refine (eqInt64S_same a4r a8r n4r n8r c4r c8r x1 _ (ho4.rd h1.2) (ho8.rd h1.2) (by omega)).mono ?_
    rintro e W9 ⟨rfl, hq9⟩
    replace hq9 := below_q hq9
    replace HB := bt HB hq9
    clear hq9
    go_wp2_with fail
    go_ret
    exact ⟨rfl, bt hw0 HB⟩
end Go.Proofs.Ytnajjofaijpciaa
