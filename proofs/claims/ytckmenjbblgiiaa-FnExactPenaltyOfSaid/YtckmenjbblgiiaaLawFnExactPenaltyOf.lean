/-
  The law FnExactPenaltyOf holds at every input.
  Conditions: none.
-/
import Derived.Test.YtckmenjbblgiiaaPenF
set_option linter.unusedVariables false
namespace Go.Proofs.Ytckmenjbblgiiaa
open Go.RowKit Go.G8
theorem keepg {W W' : World} {b : Nat} {u0 u1 u2 : Value} (hb : Below W.heap.size W W') (h : b < W.heap.size ∧ W.cell? ⟨b, 0, none⟩ = some u0 ∧ W.cell? ⟨b, 1, none⟩ = some u1 ∧ W.cell? ⟨b, 2, none⟩ = some u2) : b < W'.heap.size ∧ W'.cell? ⟨b, 0, none⟩ = some u0 ∧ W'.cell? ⟨b, 1, none⟩ = some u1 ∧ W'.cell? ⟨b, 2, none⟩ = some u2 := by
  obtain ⟨h1, h2, h3, h4⟩ := keep3 hb h.1 h.2.1 h.2.2.1 h.2.2.2
  exact ⟨h4, h1, h2, h3⟩
def heldG (b b4 : Nat) (r c : Int) (s s4 : Value) (W : World) : Prop :=
  W.cell? ⟨b, 0, none⟩ = some (.int .i64 r) ∧ W.cell? ⟨b, 1, none⟩ = some (.int .i64 c) ∧ W.cell? ⟨b, 2, none⟩ = some s ∧ W.cell? ⟨b4, 0, none⟩ = some (.int .i64 r) ∧ W.cell? ⟨b4, 1, none⟩ = some (.int .i64 c) ∧ W.cell? ⟨b4, 2, none⟩ = some s4
theorem heldG_keep {b b4 : Nat} {r c : Int} {s s4 : Value} {V W : World} (h1 : b < V.heap.size) (h2 : b4 < V.heap.size) (h : heldG b b4 r c s s4 V) (hb : Below V.heap.size V W) : heldG b b4 r c s s4 W := by
  obtain ⟨a1, a2, a3, a4, a5, a6⟩ := h
  have e1 := (keepg hb ⟨h1, a1, a2, a3⟩).2
  have e2 := (keepg hb ⟨h2, a4, a5, a6⟩).2
  exact ⟨e1.1, e1.2.1, e1.2.2, e2⟩
set_option maxHeartbeats 1000000 in
theorem law_FnExactPenaltyOf (r c : Int) (a : Option Addr) (n k : Nat) (xs : List Int) (w : World) (hr : fits .i64 r) (hc : fits .i64 c) (h : Rd .i64 w a n xs) (hk : n ≤ k ∧ k ≤ maxLen) :
    Calls Try.prog 5 #[.agg #[.int .i64 r, .int .i64 c, .slice a n k]] w (Ret (.bool true) w) := by
  have hn : n ≤ 9223372036854775807 := by have := hk.2; unfold maxLen at this; omega
  obtain ⟨hw0, hlt0, c0, c1, c2⟩ := grid_start w (.int .i64 r) (.int .i64 c) (.slice a n k) 38
  have HZ := Lib.hid (fun w => szGrid_any r c a n k w hn)
  by_cases hs : n ≤ 1048576
  · rw [if_pos hs] at HZ
    have hd : decide ((1048576 : Int) - n < 0) = false := by simp; omega
    have HG := Lib.hid (fun w h => toGrid_any r c a n k xs w h hs)
    have HX := Lib.hid h
    have hR := h.to hw0
    go_enter Try.func5, Try.ntmps5
    go_wp2_with fail
    refine (HZ.out _).mono ?_
    rintro e w1 ⟨rfl, hb1⟩
    have hB1 := bt hw0 hb1
    have hC1 := Lib.hid (keepg hb1 ⟨hlt0, c0, c1, c2⟩)
    have hR1 := hR.to hb1
    clear hb1 hw0 hlt0 c0 c1 c2 hR
    obtain ⟨d0, d1, d2, d3⟩ := hC1.out
    go_wp2_with fail
    refine (HG.out _ hR1).mono ?_
    rintro e w2 ⟨a2, n2, k2, rfl, ho2, hb2⟩
    have hB2 := bt hB1 hb2
    have hC2 := Lib.hid (keepg hb2 hC1.out)
    have hR2 := hR1.to hb2
    have hn2 : n2 ≤ 1048576 := by have := ho2.len; have := h.len; omega
    clear d0 d1 d2 d3 hB1 hR1 hC1
    obtain ⟨d0, d1, d2, d3⟩ := hC2.out
    clear hb2
    go_wp2_with fail
    refine (specPenaltyOf_any r c a2 n2 k2 xs _ (ho2.rd h.2) (by omega) ho2.cap).mono ?_
    rintro e w3 ⟨rfl, hb3⟩
    have hB3 := bt hB2 hb3
    have hC3 := Lib.hid (keepg hb3 hC2.out)
    have hR3 := hR2.to hb3
    clear hb3 hB2 d0 d1 d2 d3 hR2 hC2 ho2
    obtain ⟨d0, d1, d2, d3⟩ := hC3.out
    go_wp2_with fail
    refine (HG.out _ hR3).mono ?_
    rintro e w4 ⟨a4, n4, k4, rfl, ho4, hb4⟩
    have hB4 := bt hB3 hb4
    have hC4 := Lib.hid (keepg hb4 hC3.out)
    have hR4 := hR3.to hb4
    have hn4 : n4 ≤ 1048576 := by have := ho4.len; have := h.len; omega
    clear d0 d1 d2 d3 hB3 hR3 hC3
    obtain ⟨d0, d1, d2, d3⟩ := hC4.out
    clear hb4
    obtain ⟨s1, s2, s3, s4, s5⟩ := grid_start w4 (.int .i64 r) (.int .i64 c) (.slice a4 n4 k4) 41
    replace hB4 := bt hB4 s1
    replace hC4 := Lib.hid (keepg s1 hC4.out)
    replace hR4 := hR4.to s1
    have hX4 := Lib.hid (show _ ∧ _ ∧ _ ∧ _ from ⟨s2, s3, s4, s5⟩)
    have hcap4 := ho4.cap
    replace ho4 := (ho4.keep s1).rd h.2
    clear d0 d1 d2 d3 s1 s2 s3 s4 s5
    obtain ⟨d0, d1, d2, d3⟩ := hC4.out
    obtain ⟨q0, q1, q2, q3⟩ := hX4.out
    go_wp2_with fail
    refine (implPenaltyOf_any r c a4 n4 k4 xs _ ho4 (by omega) hcap4).mono ?_
    rintro e w5 ⟨rfl, hb5⟩
    have hB5 := bt hB4 hb5
    have hC5 := Lib.hid (keepg hb5 hC4.out)
    have hX5 := Lib.hid (keepg hb5 hX4.out)
    have hR5 := hR4.to hb5
    have ho5 := ho4.to hb5
    clear hb5 hB4 d0 d1 d2 d3 q0 q1 q2 q3 hR4 hC4 hX4 ho4
    obtain ⟨d0, d1, d2, d3⟩ := hC5.out
    obtain ⟨q0, q1, q2, q3⟩ := hX5.out
    generalize (rPenOf r c xs).1 = A1
    generalize (rPenOf r c xs).2 = A2
    have hbb : (A1 != A1) = false := by simp
    have hbb2 : (A2 != A2) = false := by simp
    have HS5 := Lib.hid (show heldG w.heap.size w4.heap.size r c (.slice a n k) (.slice a4 n4 k4) w5 from ⟨d1, d2, d3, q1, q2, q3⟩)
    have HK := Lib.hid (fun W (hW : Below w5.heap.size w5 W) => heldG_keep hC5.out.1 hX5.out.1 HS5.out hW)
    have HN := Lib.hid h.len
    have HF := Lib.hid h.2
    clear d0 d1 d2 d3 q0 q1 q2 q3 hC5 hX5 h
    have HB5 := Lib.hid hB5
    have HR5 := Lib.hid hR5
    have HO5 := Lib.hid ho5
    clear hB5 hR5 ho5
    go_wp2_with fail
    go_region_held3 (fun W => W.cell? ⟨w.heap.size, 0, none⟩ = some (.int .i64 r) ∧ W.cell? ⟨w.heap.size, 1, none⟩ = some (.int .i64 c) ∧ W.cell? ⟨w.heap.size, 2, none⟩ = some (.slice a n k) ∧ W.cell? ⟨w4.heap.size, 0, none⟩ = some (.int .i64 r) ∧ W.cell? ⟨w4.heap.size, 1, none⟩ = some (.int .i64 c) ∧ W.cell? ⟨w4.heap.size, 2, none⟩ = some (.slice a4 n4 k4)) (first | exact HS5.out | exact HK.out _ hb6 | exact HK.out _ hb7 | go_keep) (first | (go_at_call 25; refine (HG.out _ (HR5.out.to (by first | exact Below.refl _ _ | exact (Below.refl _ _).drew | exact ((Below.refl _ _).drew).drew))).mono ?_; rintro e w6 ⟨a6, n6, k6, rfl, ho6, hb6⟩; replace hb6 := bt (w := w5) (by first | exact Below.refl _ _ | exact (Below.refl _ _).drew | exact ((Below.refl _ _).drew).drew) hb6) | (go_at_call 27; refine (eqGrid_same r c a4 a6 n4 n6 k4 k6 xs _ (HO5.out.to (bt hb6 (by first | exact Below.refl _ _ | exact (Below.refl _ _).drew | exact ((Below.refl _ _).drew).drew))) ((ho6.keep (by first | exact Below.refl _ _ | exact (Below.refl _ _).drew | exact ((Below.refl _ _).drew).drew)).rd HF.out) (by omega)).mono ?_; rintro e w7 ⟨rfl, hb7⟩; replace hb7 := bt (bt hb6 (by first | exact Below.refl _ _ | exact (Below.refl _ _).drew | exact ((Below.refl _ _).drew).drew)) hb7))
    all_goals go_wp2_with fail
    all_goals go_ret
    all_goals exact ⟨rfl, bt HB5.out (by first | exact hb7 | exact hb7.drew)⟩
  · rw [if_neg hs] at HZ
    go_enter Try.func5, Try.ntmps5
    go_wp2_with fail
    refine (HZ.out _).mono ?_
    rintro e w1 ⟨rfl, hb1⟩
    have hB := bt hw0 hb1
    go_wp2_with fail
    go_ret
    exact ⟨rfl, hB⟩
end Go.Proofs.Ytckmenjbblgiiaa
