/-
  The law FnFieldLogs holds at every input.
  Conditions: none.
-/
import Derived.Test.YtjdnaoidlblciaaLogsA
import Derived.Test.YtjdnaoidlblciaaDrawM
import Derived.Test.YtjdnaoidlblciaaLib
set_option linter.unusedVariables false
namespace Go.Proofs.Ytjdnaoidlblciaa
open Go.RowKit Go.G8
theorem slot_more {wb W W' : World} {b : Nat} {u0 u1 u2 : Value} (hb : Below W.heap.size W W') (h : Below wb.heap.size wb W ∧ b < W.heap.size ∧ W.cell? ⟨b, 0, none⟩ = some u0 ∧ W.cell? ⟨b, 1, none⟩ = some u1 ∧ W.cell? ⟨b, 2, none⟩ = some u2) :
    Below wb.heap.size wb W' ∧ b < W'.heap.size ∧ W'.cell? ⟨b, 0, none⟩ = some u0 ∧ W'.cell? ⟨b, 1, none⟩ = some u1 ∧ W'.cell? ⟨b, 2, none⟩ = some u2 := by
  obtain ⟨h1, h2, h3, h4, h5⟩ := h
  obtain ⟨g0, g1, g2⟩ := cell3 hb h2 h3 h4 h5
  exact ⟨bt h1 hb, Nat.lt_of_lt_of_le h2 hb.size, g0, g1, g2⟩
theorem wrapij {i j : Nat} (hi : i ≤ 1019) (hj : j ≤ 1019) : IntKind.i64.wrap ((i : Int) + j) = (i : Int) + j := IntWalk.i64_in _ (by omega)
set_option maxHeartbeats 1000000 in
set_option maxRecDepth 20000 in
theorem law_FnFieldLogs (a : Option Addr) (n c : Nat) (xs : List Int) (w : World) (h : Rd .u8 w a n xs) :
    Calls Try.prog 4 #[.slice a n c] w (Ret (.bool true) w) := by
  by_cases hbig : 4096 < n
  · go_enter Try.func4, Try.ntmps4
    go_wp2_with fail
    refine (big_any a n c _).mono ?_
    rw [decide_eq_true (by omega)]
    rintro e w1 ⟨rfl, rfl⟩
    go_wp2_with fail
    go_ret
    exact ⟨rfl, Below.refl _ _⟩
  · have hn : n ≤ 4096 := by omega
    go_enter Try.func4, Try.ntmps4
    go_wp2_with fail
    refine (big_any a n c _).mono ?_
    rw [decide_eq_false (by omega)]
    rintro e w1 ⟨rfl, rfl⟩
    go_wp2_with fail
    refine (drawFieldMul_any a n c xs _ h hn).mono ?_
    rintro e w1 ⟨p, q, y, r, s, rfl, hp, hq, hy, hr, hs, hb1⟩
    clear hbig h
    have HI := Lib.hid (fun w => fieldMul_impl p q y r s w hr hs)
    have HS := Lib.hid (fun w => fieldMul_spec p q y r s w hr hs)
    have HN := Lib.hid (new_fld w1 (.int .i64 p) (.int .i64 q) (.int .i64 y) 26)
    have HB1 := Lib.hid hb1
    clear hb1
    by_cases hc : codeF p q y [r, s] = 0
    · rw [rOf_zero hc] at HI HS
      by_cases hr0 : r = 0
      · subst hr0
        obtain ⟨hL, hM⟩ := logs_left hc
        rw [hM] at HI HS
        have HL := Lib.hid (fun w => fieldLog_impl p q y 0 w (by decide))
        rw [hL] at HL
        have HL2 := Lib.hid (fun w => fieldLog_impl p q y s w hs)
        obtain ⟨lr, hlr⟩ : ∃ lr, rLog p q y s = lr := ⟨_, rfl⟩
        rw [hlr] at HL2
        obtain ⟨li, lc⟩ := lr
        clear hL hM hc hlr
        have HK0 := Lib.hid (show Below w.heap.size w (w1.alloc (.cells #[.int .i64 p, .int .i64 q, .int .i64 y] 26)) ∧ _ ∧ _ ∧ _ ∧ _ from ⟨HB1.out.alloc (by have := HB1.out.size; omega) _, HN.out.2.2.2, HN.out.1, HN.out.2.1, HN.out.2.2.1⟩)
        clear HN HB1
        go_wp2_with fail
        refine (HI.out _).mono ?_
        rintro e w2 ⟨rfl, hb2⟩
        obtain ⟨B2, l2, g0, g1, g2⟩ := slot_more hb2 HK0.out
        have HK2 := Lib.hid (show _ ∧ _ ∧ _ ∧ _ ∧ _ from ⟨B2, l2, g0, g1, g2⟩)
        clear HK0 hb2 B2 l2
        go_wp2_with fail
        refine (HS.out _).mono ?_
        rintro e w3 ⟨rfl, hb3⟩
        clear g0 g1 g2
        obtain ⟨B3, l3, g0, g1, g2⟩ := slot_more hb3 HK2.out
        have HK3 := Lib.hid (show _ ∧ _ ∧ _ ∧ _ ∧ _ from ⟨B3, l3, g0, g1, g2⟩)
        clear hb3 B3 l3
        clear HK2
        go_wp2_with fail
        refine (HL.out _).mono ?_
        rintro e w4 ⟨rfl, hb4⟩
        clear g0 g1 g2
        obtain ⟨B4, l4, g0, g1, g2⟩ := slot_more hb4 HK3.out
        have HK4 := Lib.hid (show _ ∧ _ ∧ _ ∧ _ ∧ _ from ⟨B4, l4, g0, g1, g2⟩)
        clear hb4 B4 l4
        clear HK3
        go_wp2_with fail
        refine (HL2.out _).mono ?_
        rintro e w5 ⟨rfl, hb5⟩
        clear g0 g1 g2
        obtain ⟨B5, l5, g0, g1, g2⟩ := slot_more hb5 HK4.out
        have HK5 := Lib.hid (show _ ∧ _ ∧ _ ∧ _ ∧ _ from ⟨B5, l5, g0, g1, g2⟩)
        clear hb5 B5 l5
        clear HK4
        go_wp2_with fail
        go_ret
        exact ⟨rfl, HK5.out.1⟩
      by_cases hs0 : s = 0
      · subst hs0
        obtain ⟨⟨li, hL⟩, hL2, hM⟩ := logs_right hc hr0
        rw [hM] at HI HS
        have HL := Lib.hid (fun w => fieldLog_impl p q y r w hr)
        rw [hL] at HL
        have HL2 := Lib.hid (fun w => fieldLog_impl p q y 0 w (by decide))
        rw [hL2] at HL2
        have hre : (r == 0) = false := by rw [beq_eq_false_iff_ne]; exact hr0
        clear hL hL2 hM hc
        have HK0 := Lib.hid (show Below w.heap.size w (w1.alloc (.cells #[.int .i64 p, .int .i64 q, .int .i64 y] 26)) ∧ _ ∧ _ ∧ _ ∧ _ from ⟨HB1.out.alloc (by have := HB1.out.size; omega) _, HN.out.2.2.2, HN.out.1, HN.out.2.1, HN.out.2.2.1⟩)
        clear HN HB1
        go_wp2_with fail
        refine (HI.out _).mono ?_
        rintro e w2 ⟨rfl, hb2⟩
        obtain ⟨B2, l2, g0, g1, g2⟩ := slot_more hb2 HK0.out
        have HK2 := Lib.hid (show _ ∧ _ ∧ _ ∧ _ ∧ _ from ⟨B2, l2, g0, g1, g2⟩)
        clear HK0 hb2 B2 l2
        go_wp2_with fail
        refine (HS.out _).mono ?_
        rintro e w3 ⟨rfl, hb3⟩
        clear g0 g1 g2
        obtain ⟨B3, l3, g0, g1, g2⟩ := slot_more hb3 HK2.out
        have HK3 := Lib.hid (show _ ∧ _ ∧ _ ∧ _ ∧ _ from ⟨B3, l3, g0, g1, g2⟩)
        clear hb3 B3 l3
        clear HK2
        go_wp2_with fail
        refine (HL.out _).mono ?_
        rintro e w4 ⟨rfl, hb4⟩
        clear g0 g1 g2
        obtain ⟨B4, l4, g0, g1, g2⟩ := slot_more hb4 HK3.out
        have HK4 := Lib.hid (show _ ∧ _ ∧ _ ∧ _ ∧ _ from ⟨B4, l4, g0, g1, g2⟩)
        clear hb4 B4 l4
        clear HK3
        go_wp2_with fail
        refine (HL2.out _).mono ?_
        rintro e w5 ⟨rfl, hb5⟩
        clear g0 g1 g2
        obtain ⟨B5, l5, g0, g1, g2⟩ := slot_more hb5 HK4.out
        have HK5 := Lib.hid (show _ ∧ _ ∧ _ ∧ _ ∧ _ from ⟨B5, l5, g0, g1, g2⟩)
        clear hb5 B5 l5
        clear HK4
        go_wp2_with fail
        go_ret
        exact ⟨rfl, HK5.out.1⟩
      obtain ⟨i, j, hi, hj, hL, hL2, hP⟩ := logs_of hc hr0 hs0
      have HL := Lib.hid (fun w => fieldLog_impl p q y r w hr)
      rw [hL] at HL
      have HL2 := Lib.hid (fun w => fieldLog_impl p q y s w hs)
      rw [hL2] at HL2
      have hij : IntKind.i64.wrap ((i : Int) + j) = (i : Int) + j := wrapij hi hj
      have HZI := Lib.hid (fun w => fieldSize_impl p q y w)
      have HZS := Lib.hid (fun w => fieldSize_spec p q y w)
      obtain ⟨X, hX⟩ : ∃ X, fMul p q y r s = X := ⟨_, rfl⟩
      rw [hX] at HI HS hP
      obtain ⟨Z, hZ⟩ : ∃ Z, sizeR p q y = Z := ⟨_, rfl⟩
      rw [hZ] at HZI HZS
      by_cases hq1 : q = 1
      · subst hq1
        have HP := Lib.hid (fun w => fieldPow_impl p 1 y y ((i : Int) + j) w (by omega))
        rw [show rPow p 1 y y ((i : Int) + j) = (X, 0) from hP] at HP
        clear hL hL2 hP hX hZ hc hr0 hs0
        have HK0 := Lib.hid (show Below w.heap.size w (w1.alloc (.cells #[.int .i64 p, .int .i64 1, .int .i64 y] 26)) ∧ _ ∧ _ ∧ _ ∧ _ from ⟨HB1.out.alloc (by have := HB1.out.size; omega) _, HN.out.2.2.2, HN.out.1, HN.out.2.1, HN.out.2.2.1⟩)
        clear HN HB1
        go_wp2_with fail
        refine (HI.out _).mono ?_
        rintro e w2 ⟨rfl, hb2⟩
        obtain ⟨B2, l2, g0, g1, g2⟩ := slot_more hb2 HK0.out
        have HK2 := Lib.hid (show _ ∧ _ ∧ _ ∧ _ ∧ _ from ⟨B2, l2, g0, g1, g2⟩)
        clear HK0 hb2 B2 l2
        go_wp2_with fail
        refine (HS.out _).mono ?_
        rintro e w3 ⟨rfl, hb3⟩
        clear g0 g1 g2
        obtain ⟨B3, l3, g0, g1, g2⟩ := slot_more hb3 HK2.out
        have HK3 := Lib.hid (show _ ∧ _ ∧ _ ∧ _ ∧ _ from ⟨B3, l3, g0, g1, g2⟩)
        clear hb3 B3 l3
        clear HK2
        go_wp2_with fail
        refine (HL.out _).mono ?_
        rintro e w4 ⟨rfl, hb4⟩
        clear g0 g1 g2
        obtain ⟨B4, l4, g0, g1, g2⟩ := slot_more hb4 HK3.out
        have HK4 := Lib.hid (show _ ∧ _ ∧ _ ∧ _ ∧ _ from ⟨B4, l4, g0, g1, g2⟩)
        clear hb4 B4 l4
        clear HK3
        go_wp2_with fail
        refine (HL2.out _).mono ?_
        rintro e w5 ⟨rfl, hb5⟩
        clear g0 g1 g2
        obtain ⟨B5, l5, g0, g1, g2⟩ := slot_more hb5 HK4.out
        have HK5 := Lib.hid (show _ ∧ _ ∧ _ ∧ _ ∧ _ from ⟨B5, l5, g0, g1, g2⟩)
        clear hb5 B5 l5
        clear HK4
        go_wp2_with fail
        refine (HP.out _).mono ?_
        rintro e w6 ⟨rfl, hb6⟩
        clear g0 g1 g2
        obtain ⟨B6, l6, g0, g1, g2⟩ := slot_more hb6 HK5.out
        have HK6 := Lib.hid (show _ ∧ _ ∧ _ ∧ _ ∧ _ from ⟨B6, l6, g0, g1, g2⟩)
        clear hb6 B6 l6
        clear HK5
        go_wp2_with fail
        have hd6 : Below w6.heap.size w6 w6.drew := (Below.refl _ _).drew
        go_region_held3 (fun w' => w'.cell? ⟨w1.heap.size, 0, none⟩ = some (.int .i64 p) ∧ w'.cell? ⟨w1.heap.size, 1, none⟩ = some (.int .i64 1) ∧ w'.cell? ⟨w1.heap.size, 2, none⟩ = some (.int .i64 y))
          (first | exact (slot_more hd6 HK6.out).2.2 | exact (slot_more (bt (bt hd6 hbA) hbB) HK6.out).2.2 | exact (slot_more (bt (bt hd6 hbB) hbA) HK6.out).2.2 | exact (slot_more (bt hd6 hbA) HK6.out).2.2 | exact (slot_more (bt hd6 hbB) HK6.out).2.2)
          (first | (go_at_call 18; refine (HZI.out _).mono ?_; rintro e wA ⟨rfl, hbA⟩) | (go_at_call 25; refine (HZS.out _).mono ?_; rintro e wB ⟨rfl, hbB⟩))
        all_goals go_wp2_with fail
        all_goals go_ret
        all_goals (first | exact ⟨rfl, (slot_more (bt (bt hd6 hbA) hbB) HK6.out).1⟩ | exact ⟨rfl, (slot_more (bt (bt hd6 hbB) hbA) HK6.out).1⟩)
      · have hqe : (q == 1) = false := by rw [beq_eq_false_iff_ne]; exact hq1
        have HP := Lib.hid (fun w => fieldPow_impl p q y 2 ((i : Int) + j) w (by decide))
        rw [show rPow p q y 2 ((i : Int) + j) = (X, 0) from (by rw [← hP]; unfold genR; rw [if_neg hq1])] at HP
        clear hL hL2 hP hX hZ hc hr0 hs0 hq1
        have HK0 := Lib.hid (show Below w.heap.size w (w1.alloc (.cells #[.int .i64 p, .int .i64 q, .int .i64 y] 26)) ∧ _ ∧ _ ∧ _ ∧ _ from ⟨HB1.out.alloc (by have := HB1.out.size; omega) _, HN.out.2.2.2, HN.out.1, HN.out.2.1, HN.out.2.2.1⟩)
        clear HN HB1
        go_wp2_with fail
        refine (HI.out _).mono ?_
        rintro e w2 ⟨rfl, hb2⟩
        obtain ⟨B2, l2, g0, g1, g2⟩ := slot_more hb2 HK0.out
        have HK2 := Lib.hid (show _ ∧ _ ∧ _ ∧ _ ∧ _ from ⟨B2, l2, g0, g1, g2⟩)
        clear HK0 hb2 B2 l2
        go_wp2_with fail
        refine (HS.out _).mono ?_
        rintro e w3 ⟨rfl, hb3⟩
        clear g0 g1 g2
        obtain ⟨B3, l3, g0, g1, g2⟩ := slot_more hb3 HK2.out
        have HK3 := Lib.hid (show _ ∧ _ ∧ _ ∧ _ ∧ _ from ⟨B3, l3, g0, g1, g2⟩)
        clear hb3 B3 l3
        clear HK2
        go_wp2_with fail
        refine (HL.out _).mono ?_
        rintro e w4 ⟨rfl, hb4⟩
        clear g0 g1 g2
        obtain ⟨B4, l4, g0, g1, g2⟩ := slot_more hb4 HK3.out
        have HK4 := Lib.hid (show _ ∧ _ ∧ _ ∧ _ ∧ _ from ⟨B4, l4, g0, g1, g2⟩)
        clear hb4 B4 l4
        clear HK3
        go_wp2_with fail
        refine (HL2.out _).mono ?_
        rintro e w5 ⟨rfl, hb5⟩
        clear g0 g1 g2
        obtain ⟨B5, l5, g0, g1, g2⟩ := slot_more hb5 HK4.out
        have HK5 := Lib.hid (show _ ∧ _ ∧ _ ∧ _ ∧ _ from ⟨B5, l5, g0, g1, g2⟩)
        clear hb5 B5 l5
        clear HK4
        go_wp2_with fail
        refine (HP.out _).mono ?_
        rintro e w6 ⟨rfl, hb6⟩
        clear g0 g1 g2
        obtain ⟨B6, l6, g0, g1, g2⟩ := slot_more hb6 HK5.out
        have HK6 := Lib.hid (show _ ∧ _ ∧ _ ∧ _ ∧ _ from ⟨B6, l6, g0, g1, g2⟩)
        clear hb6 B6 l6
        clear HK5
        go_wp2_with fail
        have hd6 : Below w6.heap.size w6 w6.drew := (Below.refl _ _).drew
        go_region_held3 (fun w' => w'.cell? ⟨w1.heap.size, 0, none⟩ = some (.int .i64 p) ∧ w'.cell? ⟨w1.heap.size, 1, none⟩ = some (.int .i64 q) ∧ w'.cell? ⟨w1.heap.size, 2, none⟩ = some (.int .i64 y))
          (first | exact (slot_more hd6 HK6.out).2.2 | exact (slot_more (bt (bt hd6 hbA) hbB) HK6.out).2.2 | exact (slot_more (bt (bt hd6 hbB) hbA) HK6.out).2.2 | exact (slot_more (bt hd6 hbA) HK6.out).2.2 | exact (slot_more (bt hd6 hbB) HK6.out).2.2)
          (first | (go_at_call 18; refine (HZI.out _).mono ?_; rintro e wA ⟨rfl, hbA⟩) | (go_at_call 25; refine (HZS.out _).mono ?_; rintro e wB ⟨rfl, hbB⟩))
        all_goals go_wp2_with fail
        all_goals go_ret
        all_goals (first | exact ⟨rfl, (slot_more (bt (bt hd6 hbA) hbB) HK6.out).1⟩ | exact ⟨rfl, (slot_more (bt (bt hd6 hbB) hbA) HK6.out).1⟩)
    · rw [rOf_bad hc] at HI HS
      obtain ⟨d, hd⟩ : ∃ d, codeF p q y [r, s] = d := ⟨_, rfl⟩
      rw [hd] at HI HS hc
      have hd0 : (d == 0) = false := by rw [beq_eq_false_iff_ne]; exact hc
      clear hc hd
      go_wp2_with fail
      refine (HI.out _).mono ?_
      rintro e w2 ⟨rfl, hb2⟩
      obtain ⟨d0, d1, d2, d3⟩ := HN.out
      obtain ⟨g0, g1, g2⟩ := cell3 hb2 d3 d0 d1 d2
      have hB2 := Lib.hid (bt (HB1.out.alloc (by have := HB1.out.size; omega) _) hb2)
      clear d0 d1 d2 d3 hb2 HN HB1
      go_wp2_with fail
      refine (HS.out _).mono ?_
      rintro e w3 ⟨rfl, hb3⟩
      have hB3 := bt hB2.out hb3
      go_wp2_with fail
      go_ret
      exact ⟨rfl, hB3⟩
end Go.Proofs.Ytjdnaoidlblciaa
