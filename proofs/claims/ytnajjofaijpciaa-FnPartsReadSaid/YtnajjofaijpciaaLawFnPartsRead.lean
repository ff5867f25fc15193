/-
  The law FnPartsRead holds at every input.
  Conditions: none.
-/
import Derived.Test.YtnajjofaijpciaaPrP
import Derived.Test.YtnajjofaijpciaaPrR
import Derived.Test.YtnajjofaijpciaaMg1
set_option linter.unusedVariables false
namespace Go.Proofs.Ytnajjofaijpciaa
open Go.RowKit Go.G8
set_option maxHeartbeats 4000000 in
set_option maxRecDepth 20000 in
theorem law_FnPartsRead (a : Option Addr) (n c : Nat) (xs : List Int) (w : World) (h : Rd .u8 w a n xs) :
    Calls Try.prog 7 #[.slice a n c] w (Ret (.bool true) w) := by
  by_cases hbig : 4096 < n
  · go_enter Try.func7, Try.ntmps7
    go_wp2_with fail
    refine (big_any a n c _).mono ?_
    rw [decide_eq_true (by omega)]
    rintro e w1 ⟨rfl, rfl⟩
    go_wp2_with fail
    go_ret
    exact ⟨rfl, Below.refl _ _⟩
  · have hn : n ≤ 4096 := by omega
    go_enter Try.func7, Try.ntmps7
    go_wp2_with fail
    refine (big_any a n c _).mono ?_
    rw [decide_eq_false (by omega)]
    rintro e w1 ⟨rfl, rfl⟩
    go_wp2_with fail
    refine (drawDecodePart_any a n c xs _ h hn).mono ?_
    rintro e w1 ⟨p, q, y, a1, n1, c1, zs, rfl, hp, hq, hy, hn1, hz1, ho1, hb1⟩
    clear hbig h
    have hR1 := ho1.rd hz1
    clear ho1
    have HI := Lib.hid (fun W hR => implDecodePart_any p q y a1 n1 c1 zs W hR (by omega))
    have HS := Lib.hid (fun W hR => specDecodePart_any p q y a1 n1 c1 zs W hR (by omega))
    have HP := Lib.hid (fun W hR => implDecodePayload_any p q y a1 n1 c1 zs W hR (by omega))
    have HG := Lib.hid (@rPart_good p q y zs)
    have HO := Lib.hid (@rPart_own p q y zs)
    obtain ⟨R, hR⟩ : ∃ R, rPart p q y zs = R := ⟨_, rfl⟩
    obtain ⟨D, hD⟩ : ∃ D, rDecode p q y zs = D := ⟨_, rfl⟩
    rw [hR] at HI HS HG HO
    rw [hD] at HP HO
    obtain ⟨P, code⟩ := R
    obtain ⟨t, one⟩ := D
    have hpv : partVal P code = .tuple #[.agg #[.int .i64 P.ix, .int .i64 P.ct, .int .i64 P.pr, .string P.tx], .int .i64 code] := rfl
    simp only [hpv] at HI HS
    clear hR hD hpv
    have e2 : (code != code) = false := by simp
    obtain ⟨V, hV⟩ : ∃ V, w1.alloc (.cells #[.int .i64 p, .int .i64 q, .int .i64 y] 36) = V := ⟨_, rfl⟩
    have hF := Slot3.new w1 (.int .i64 p) (.int .i64 q) (.int .i64 y) 36
    have hal := Below.alloc (Below.refl w1.heap.size w1) (Nat.le_refl _) (.cells #[.int .i64 p, .int .i64 q, .int .i64 y] 36)
    rw [hV] at hF hal
    have hRV := hR1.to hal
    have hBV := bt hb1 hal
    clear hR1 hal hb1
    obtain ⟨v0, v1, v2, v3, v4⟩ := id hF
    go_wp2_with fail
    clear hV v0 v1 v2 v3 v4
    refine (HI.out _ hRV).mono ?_
    rintro e w2 ⟨rfl, hb2⟩
    obtain ⟨V2, hV2⟩ : ∃ V, w2.alloc (.cells #[.int .i64 P.ix, .int .i64 P.ct, .int .i64 P.pr, .string P.tx] 45) = V := ⟨_, rfl⟩
    have hX := Slot4.new w2 (.int .i64 P.ix) (.int .i64 P.ct) (.int .i64 P.pr) (.string P.tx) 45
    have hal2 := Below.alloc (Below.refl w2.heap.size w2) (Nat.le_refl _) (.cells #[.int .i64 P.ix, .int .i64 P.ct, .int .i64 P.pr, .string P.tx] 45)
    rw [hV2] at hX hal2
    have hF2 := (hF.keep hb2).keep hal2
    have hR2 := (hRV.to hb2).to hal2
    have hB2 := bt (bt hBV hb2) hal2
    clear hF hRV hBV hb2 hal2
    obtain ⟨s0, s1, s2, s3, s4⟩ := id hF2
    go_wp2_with fail
    clear hV2
    refine (HS.out _ hR2).mono ?_
    rintro e w3 ⟨rfl, hb3⟩
    obtain ⟨V3, hV3⟩ : ∃ V, w3.alloc (.cells #[.int .i64 P.ix, .int .i64 P.ct, .int .i64 P.pr, .string P.tx] 45) = V := ⟨_, rfl⟩
    have hY := Slot4.new w3 (.int .i64 P.ix) (.int .i64 P.ct) (.int .i64 P.pr) (.string P.tx) 45
    have hal3 := Below.alloc (Below.refl w3.heap.size w3) (Nat.le_refl _) (.cells #[.int .i64 P.ix, .int .i64 P.ct, .int .i64 P.pr, .string P.tx] 45)
    rw [hV3] at hY hal3
    have hF3 := (hF2.keep hb3).keep hal3
    have hX3 := (hX.keep hb3).keep hal3
    have hR3 := (hR2.to hb3).to hal3
    have hB3 := bt (bt hB2 hb3) hal3
    clear hF2 hX hR2 hB2 hb3 hal3 s0 s1 s2 s3 s4
    obtain ⟨s0, s1, s2, s3, s4⟩ := id hF3
    obtain ⟨x0, x1, x2, x3, x4, x5⟩ := id hX3
    obtain ⟨y0, y1, y2, y3, y4, y5⟩ := id hY
    by_cases hc : code = 0
    · subst hc
      have hgood : isPart P.ix P.ct P.pr P.tx = true := HG.out rfl
      have h0 : ((0 : Int) != 0) = false := by simp
      by_cases ho : one = 0
      · subst ho
        have hown : P = ⟨0, 1, parity (strI t), t⟩ := HO.out rfl rfl
        subst hown
        clear HG HO x0 x1 x2 x3 x4 x5 y0 y1 y2 y3 y4 y5
        have hts : t.size ≤ 400 := by
          unfold isPart at hgood
          simp only [Bool.and_eq_true, decide_eq_true_eq] at hgood
          exact hgood.2
        have hpb := parity_bd (strI t)
        have HM := Lib.hid (fun W => implMessageParity_any t W (by omega))
        have HIP := Lib.hid (fun W => implIsPart_any 0 1 (parity (strI t)) t W (by omega) (by omega) (by omega) (by omega))
        rw [hgood] at HIP
        simp only at HI HS hX3 hY hgood ⊢
        clear hgood
        generalize parity (strI t) = pt at *
        obtain ⟨x0, x1, x2, x3, x4, x5⟩ := id hX3
        obtain ⟨y0, y1, y2, y3, y4, y5⟩ := id hY
        go_wp2_with fail
        refine (HP.out _ hR3).mono ?_
        rintro e w4 ⟨rfl, hb4⟩
        have hX4 := hX3.keep hb4
        have hB4 := bt hB3 hb4
        clear hF3 hX3 hY hR3 hB3 hb4 s0 s1 s2 s3 s4 x0 x1 x2 x3 x4 x5 y0 y1 y2 y3 y4 y5
        obtain ⟨x0, x1, x2, x3, x4, x5⟩ := id hX4
        go_wp2_with fail
        have htl : (t.toList != t.toList) = false := by simp
        have hpe : (pt != pt) = false := by simp
        have hcel : w4.cell? ⟨w2.heap.size, 0, none⟩ = some (.int .i64 0) ∧ w4.cell? ⟨w2.heap.size, 1, none⟩ = some (.int .i64 1) ∧ w4.cell? ⟨w2.heap.size, 2, none⟩ = some (.int .i64 pt) ∧ w4.cell? ⟨w2.heap.size, 3, none⟩ = some (.string t) := ⟨x1, x2, x3, x4⟩
        go_region_held3 (fun w' => w'.cell? ⟨w2.heap.size, 0, none⟩ = some (.int .i64 0) ∧ w'.cell? ⟨w2.heap.size, 1, none⟩ = some (.int .i64 1) ∧ w'.cell? ⟨w2.heap.size, 2, none⟩ = some (.int .i64 pt) ∧ w'.cell? ⟨w2.heap.size, 3, none⟩ = some (.string t)) (first | exact hcel | go_keep) (first | (go_at_call 27; (with_reducible refine (HM.out _).mono ?_); rintro e w5 ⟨rfl, rfl⟩))
        rename_i hHeld
        clear hHeld hcel
        go_wp2_with fail
        refine (HIP.out _).mono ?_
        rintro e w6 ⟨rfl, hb6⟩
        have hB6 := bt (hB4.drew) hb6
        go_wp2_with fail
        go_ret
        exact ⟨rfl, hB6⟩
      · have h1 : (one == 0) = false := by rw [beq_eq_false_iff_ne]; exact ho
        have hbp : (0 ≤ P.ix ∧ P.ix ≤ 7) ∧ (1 ≤ P.ct ∧ P.ct ≤ 8) ∧ (0 ≤ P.pr ∧ P.pr ≤ 255) ∧ P.tx.size ≤ 400 := by
          unfold isPart at hgood
          simp only [Bool.and_eq_true, decide_eq_true_eq] at hgood
          omega
        have HIP := Lib.hid (fun W => implIsPart_any P.ix P.ct P.pr P.tx W (by omega) (by omega) (by omega) (by omega))
        rw [hgood] at HIP
        clear hgood ho hbp HG HO
        go_wp2_with fail
        refine (HP.out _ hR3).mono ?_
        rintro e w4 ⟨rfl, hb4⟩
        have hX4 := hX3.keep hb4
        have hB4 := bt hB3 hb4
        clear hF3 hX3 hY hR3 hB3 hb4 s0 s1 s2 s3 s4 x0 x1 x2 x3 x4 x5 y0 y1 y2 y3 y4 y5
        obtain ⟨x0, x1, x2, x3, x4, x5⟩ := id hX4
        go_wp2_with fail
        go_quiet (fail)
        go_wp2_with fail
        refine (HIP.out _).mono ?_
        rintro e w6 ⟨rfl, hb6⟩
        have hB6 := bt (below_drewN hB4 _) hb6
        go_wp2_with fail
        go_ret
        exact ⟨rfl, hB6⟩
    · have h0 : (code != 0) = true := by simpa using hc
      go_wp2_with fail
      go_ret
      exact ⟨rfl, hB3⟩
end Go.Proofs.Ytnajjofaijpciaa
