/-
  Contracts: the penalty of a grid, by the program.
  Conditions: a valid grid without unknown cells.
-/
import Derived.Test.YtckmenjbblgiiaaPenC
set_option linter.unusedVariables false
namespace Go.Proofs.Ytckmenjbblgiiaa
open Go.RowKit Go.G8
set_option maxHeartbeats 4000000 in
set_option maxRecDepth 20000 in
theorem penalty_any (r c : Nat) (b o : Nat) (n k : Nat) (xs : List Int) (w : World) (h : Rd .i64 w (some ⟨b, o, none⟩) n xs) (hn : Hid (n = r * c)) (hn4 : n ≤ 40000) (hr : 1 ≤ r ∧ r ≤ 40000) (hc : 1 ≤ c ∧ c ≤ 40000) (hz : Hid (zo xs)) :
    Calls Try.prog 71 #[.agg #[.int .i64 r, .int .i64 c, .slice (some ⟨b, o, none⟩) n k]] w (Ret (.agg #[.int .i64 ((runsP r c xs : Nat) : Int), .int .i64 ((squaresP r c xs : Nat) : Int), .int .i64 (lastP (darkI xs) ((r : Int) * (c : Int)))]) w) := by
  have HL := Lib.hid h.len
  obtain ⟨hw0, hlt0, c0, c1, c2⟩ := grid_start w (.int .i64 r) (.int .i64 c) (.slice (some ⟨b, o, none⟩) n k) 41
  have hR := h.to hw0
  go_enter Try.func71, Try.ntmps71
  go_wp2
  go_loopw [4] (fun p wr => ∃ (V v X : Nat), v ≤ r ∧ Hid (X = sumN (rowP c xs) v) ∧ p = .pointer (some ⟨V, 0, none⟩) ∧ PenSt w.heap.size (w.heap.size + 1) (w.heap.size + 1 + 1) r c (.slice (some ⟨b, o, none⟩) n k) V v X 0 wr ∧ Below w.heap.size w wr) (fun p wr => measP r p wr)
  case atStart => exact ⟨w.heap.size + 1 + 1 + 1, 0, 0, by omega, rfl, rfl, (penst_start w r c _ _ _ _ _).1, (penst_start w r c _ _ _ _ _).2⟩
  case round =>
    obtain ⟨V, v, X, hv, hX, rfl, hst, hB⟩ := hrel
    have HP := fun hv => Lib.hid (run_row h hn.out (by omega) (by omega) hv hst hB)
    have HST := Lib.hid hst
    obtain ⟨⟨g1, g2, g3, g4, g5, g6⟩, ⟨o1, o2, o3, o4, o5⟩, hR3, ⟨n1, n2, n3, n4, n5, n6⟩, g15⟩ := hst
    have o50 := o5 0
    have hX1 : X ≤ 120000 * v := by rw [hX.out]; exact sumN_le v (fun j _ => rowP_le (by omega) xs j)
    have hP1 : rowP c xs v ≤ 120000 := rowP_le (by omega) xs v
    have hnx := Lib.hid (show sumN (rowP c xs) (v + 1) = X + rowP c xs v by rw [hX.out]; rfl)
    obtain ⟨P, hPP⟩ : ∃ P, rowP c xs v = P := ⟨_, rfl⟩
    rw [hPP] at HP hP1 hnx
    clear hPP
    have ew : IntKind.i64.wrap ((X : Int) + (P : Int)) = (X : Int) + (P : Int) := IntWalk.i64_in _ (by omega)
    by_cases hlt : v < r
    · replace HP := HP hlt
      clear hR3 o5 g5
      go_wp2
      go_region_with (first | (go_at_call 95; refine (HP.out _ (by first | exact Below.refl _ _ | exact (Below.refl _ _).drew | exact ((Below.refl _ _).drew).drew)).mono ?_; rintro e w1 ⟨rfl, hb1⟩; replace hb1 := bt (w := wr) (by first | exact Below.refl _ _ | exact (Below.refl _ _).drew | exact ((Below.refl _ _).drew).drew) hb1; have hz1 := (HST.out.to hb1).2.1.2.2.2.2 0; have hz2 := (HST.out.to hb1).2.1.2.1; have hz3 := (HST.out.to hb1).1.2.2.2.1))
      all_goals have hst2 := (HST.out.to hb1).setO ((X : Int) + (P : Int))
      all_goals have hB2 := (bt hB hb1).setCell (p := ⟨w.heap.size + 1 + 1, 0, none⟩) (show w.heap.size ≤ w.heap.size + 1 + 1 by omega) (.int .i64 ((X : Int) + (P : Int)))
      all_goals clear hz1 hz2 hz3 hb1 hB o1 o2 o3 o4 o50 g1 g2 g3 g4 g6 g15
      all_goals generalize (w1.setCell ⟨w.heap.size + 1 + 1, 0, none⟩ (.int .i64 ((X : Int) + (P : Int)))) = W2 at *
      all_goals have HS2 := Lib.hid hst2
      all_goals have q1 := hst2.1.2.2.2.2.2
      all_goals have q2 := hst2.2.2.2.2
      all_goals clear hst2
      all_goals go_wp2
      all_goals refine ⟨⟨W2.heap.size, v + 1, X + P, by omega, hnx.out.symm, rfl, HS2.out.next _ _, hB2.alloc (by have := hB2.size; omega) _⟩, ?_⟩
      all_goals rw [measP_at (HS2.out.next _ _).1.2.2.2.2.2, measP_at HST.out.1.2.2.2.2.2]
      all_goals omega
    · have hXr := Lib.hid (show X = sumN (rowP c xs) r by rw [hX.out, show v = r by omega])
      have hXb : X ≤ 120000 * 40000 := by omega
      clear hR3 o5 g5 HP hP1 hnx ew P
      go_wp2
      clear o1 o2 o3 o4 o50 g1 g2 g3 g4 g6 g15 hX1
      go_loopw [5] (fun p wr => ∃ (V v Y : Nat), v ≤ c ∧ Hid (Y = X + sumN (colP r c xs) v) ∧ p = .pointer (some ⟨V, 0, none⟩) ∧ PenSt w.heap.size (w.heap.size + 1) (w.heap.size + 1 + 1) r c (.slice (some ⟨b, o, none⟩) n k) V v Y 0 wr ∧ Below w.heap.size w wr) (fun p wr => measP c p wr)
      case atStart => exact ⟨wr.heap.size, 0, X, by omega, rfl, rfl, HST.out.next _ _, hB.alloc (by have := hB.size; omega) _⟩
      case round =>
        clear hB HST
        obtain ⟨V, v, Y, hv, hY, rfl, hst, hB⟩ := hrel
        have HP := fun hv => Lib.hid (run_col h hn.out (by omega) (by omega) hv hst hB)
        have HST := Lib.hid hst
        obtain ⟨⟨g1, g2, g3, g4, g5, g6⟩, ⟨o1, o2, o3, o4, o5⟩, hR3, -, g15⟩ := hst
        have o50 := o5 0
        have hY1 : Y ≤ X + 120000 * v := by rw [hY.out]; exact Nat.add_le_add_left (sumN_le v (fun j _ => colP_le (by omega) c xs j)) X
        have hP1 : colP r c xs v ≤ 120000 := colP_le (by omega) c xs v
        have hnx := Lib.hid (show X + sumN (colP r c xs) (v + 1) = Y + colP r c xs v by rw [hY.out]; show X + (sumN (colP r c xs) v + colP r c xs v) = _; omega)
        obtain ⟨P, hPP⟩ : ∃ P, colP r c xs v = P := ⟨_, rfl⟩
        rw [hPP] at HP hP1 hnx
        clear hPP
        have ew : IntKind.i64.wrap ((Y : Int) + (P : Int)) = (Y : Int) + (P : Int) := IntWalk.i64_in _ (by omega)
        by_cases hlt : v < c
        · replace HP := HP hlt
          clear hR3 o5 g5
          go_wp2
          go_region_with (first | (go_at_call 95; refine (HP.out _ (by first | exact Below.refl _ _ | exact (Below.refl _ _).drew | exact ((Below.refl _ _).drew).drew)).mono ?_; rintro e w1 ⟨rfl, hb1⟩; replace hb1 := bt (w := wr) (by first | exact Below.refl _ _ | exact (Below.refl _ _).drew | exact ((Below.refl _ _).drew).drew) hb1; have hz1 := (HST.out.to hb1).2.1.2.2.2.2 0; have hz2 := (HST.out.to hb1).2.1.2.1; have hz3 := (HST.out.to hb1).1.2.2.1))
          all_goals have hst2 := (HST.out.to hb1).setO ((Y : Int) + (P : Int))
          all_goals have hB2 := (bt hB hb1).setCell (p := ⟨w.heap.size + 1 + 1, 0, none⟩) (show w.heap.size ≤ w.heap.size + 1 + 1 by omega) (.int .i64 ((Y : Int) + (P : Int)))
          all_goals clear hz1 hz2 hz3 hb1 hB o1 o2 o3 o4 o50 g1 g2 g3 g4 g6 g15
          all_goals generalize (w1.setCell ⟨w.heap.size + 1 + 1, 0, none⟩ (.int .i64 ((Y : Int) + (P : Int)))) = W2 at *
          all_goals have HS2 := Lib.hid hst2
          all_goals have q1 := hst2.1.2.2.2.2.2
          all_goals have q2 := hst2.2.2.2.2
          all_goals clear hst2
          all_goals go_wp2
          all_goals refine ⟨⟨W2.heap.size, v + 1, Y + P, by omega, hnx.out.symm, rfl, HS2.out.next _ _, hB2.alloc (by have := hB2.size; omega) _⟩, ?_⟩
          all_goals rw [measP_at (HS2.out.next _ _).1.2.2.2.2.2, measP_at HST.out.1.2.2.2.2.2]
          all_goals omega
        · have hYr := Lib.hid (show Y = runsP r c xs by rw [hY.out, hXr.out, show v = c by omega]; rfl)
          have hYb : Y ≤ 120000 * 40000 + 120000 * 40000 := by omega
          clear hR3 o5 HP hP1 hnx ew P
          go_wp2
          clear o1 o2 o3 o4 o50 g1 g2 g3 g4 g6 g15 hY1 hXb hXr hX
          go_loopw [6] (fun i wr => ∃ (u S : Nat), u + 1 ≤ r ∧ Hid (S = sumN (sqRow c xs) u) ∧ i = .int .i64 (u : Int) ∧ PenSt w.heap.size (w.heap.size + 1) (w.heap.size + 1 + 1) r c (.slice (some ⟨b, o, none⟩) n k) V v Y S wr ∧ Below w.heap.size w wr) (fun i _ => r - (intOf i).toNat)
          case atStart => exact ⟨0, 0, by omega, rfl, rfl, HST.out, hB⟩
          case round =>
            clear hB HST
            obtain ⟨u, S, hu, hS, rfl, hst, hB⟩ := hrel
            have hS1 : S ≤ 120000 * u := by rw [hS.out]; exact sumN_le u (fun j _ => sqRow_le (by omega) xs j)
            have HST := Lib.hid hst
            obtain ⟨⟨g1, g2, g3, g4, g5, g6⟩, ⟨o1, o2, o3, o4, o5⟩, hR3, -, g15⟩ := hst
            by_cases hlt : u + 1 < r
            · clear hR3 o1 o2 o3 o4 o5 g1 g2 g5 g6 g15
              go_wp2
              clear g3 g4
              have hdec : decide ((u : Int) + 1 < (r : Int)) = true := decide_eq_true (by omega)
              try rw [hdec]
              clear hdec
              go_loopw [7] (fun i wr => ∃ (q S2 : Nat), q + 1 ≤ c ∧ Hid (S2 = S + sumN (sqP c xs u) q) ∧ i = .int .i64 (q : Int) ∧ PenSt w.heap.size (w.heap.size + 1) (w.heap.size + 1 + 1) r c (.slice (some ⟨b, o, none⟩) n k) V v Y S2 wr ∧ Below w.heap.size w wr) (fun i _ => c - (intOf i).toNat)
              case atStart => exact ⟨0, S, by omega, rfl, rfl, HST.out, hB⟩
              case round =>
                clear hB HST
                obtain ⟨q, S2, hq, hS2, rfl, hst, hB⟩ := hrel
                have hS3 : S2 ≤ S + 3 * q := by rw [hS2.out]; exact Nat.add_le_add_left (sumN_le q (fun j _ => sqP_le c xs u j)) S
                have HST := Lib.hid hst
                obtain ⟨⟨g1, g2, g3, g4, g5, g6⟩, ⟨o1, o2, o3, o4, o5⟩, hR3, -, g15⟩ := hst
                have o51 := o5 1
                by_cases hlt2 : q + 1 < c
                · have HA1 := Lib.hid (cell_call (k := k) h hn.out (by omega) (by omega) (i := u) (j := q) (by omega) (by omega) (u : Int) (q : Int) rfl rfl)
                  have HA2 := Lib.hid (cell_call (k := k) h hn.out (by omega) (by omega) (i := u) (j := q + 1) (by omega) (by omega) (u : Int) ((q : Int) + 1) rfl (by omega))
                  have HA3 := Lib.hid (cell_call (k := k) h hn.out (by omega) (by omega) (i := u + 1) (j := q) (by omega) (by omega) ((u : Int) + 1) (q : Int) (by omega) rfl)
                  have HA4 := Lib.hid (cell_call (k := k) h hn.out (by omega) (by omega) (i := u + 1) (j := q + 1) (by omega) (by omega) ((u : Int) + 1) ((q : Int) + 1) (by omega) (by omega))
                  have z1 := cell_zo hz.out (u * c + q)
                  have z2 := cell_zo hz.out (u * c + (q + 1))
                  have z3 := cell_zo hz.out ((u + 1) * c + q)
                  have z4 := cell_zo hz.out ((u + 1) * c + (q + 1))
                  have hyes := Lib.hid (sq_yes (c := c) (i := u) (j := q) hz.out)
                  have hno := Lib.hid (sq_no (c := c) (i := u) (j := q) hz.out)
                  generalize cellN xs (u * c + q) = y1 at *
                  generalize cellN xs (u * c + (q + 1)) = y2 at *
                  generalize cellN xs ((u + 1) * c + q) = y3 at *
                  generalize cellN xs ((u + 1) * c + (q + 1)) = y4 at *
                  clear hR3 o5 g1 g2 g6 g15
                  have wq : IntKind.i64.wrap ((q : Int) + 1) = (q : Int) + 1 := IntWalk.i64_in _ (by omega)
                  have wu : IntKind.i64.wrap ((u : Int) + 1) = (u : Int) + 1 := IntWalk.i64_in _ (by omega)
                  have wy1 : IntKind.i64.wrap (y1 + y2) = y1 + y2 := IntWalk.i64_in _ (by omega)
                  have wy2 : IntKind.i64.wrap (y1 + y2 + y3) = y1 + y2 + y3 := IntWalk.i64_in _ (by omega)
                  have wy3 : IntKind.i64.wrap (y1 + y2 + y3 + y4) = y1 + y2 + y3 + y4 := IntWalk.i64_in _ (by omega)
                  have hB0 := Lib.hid hB
                  have HC := Lib.hid (show _ ∧ _ ∧ _ from ⟨g3, g4, g5⟩)
                  have HK := Lib.hid (fun W (hW : Below wr.heap.size wr W) => (show W.cell? ⟨w.heap.size, 0, none⟩ = some (.int .i64 r) ∧ W.cell? ⟨w.heap.size, 1, none⟩ = some (.int .i64 c) ∧ W.cell? ⟨w.heap.size, 2, none⟩ = some (.slice (some ⟨b, o, none⟩) n k) from ⟨(HST.out.to hW).1.2.2.1, (HST.out.to hW).1.2.2.2.1, (HST.out.to hW).1.2.2.2.2.1⟩))
                  clear hB
                  go_wp2_with fail
                  go_region_held3 (fun W => W.cell? ⟨w.heap.size, 0, none⟩ = some (.int .i64 r) ∧ W.cell? ⟨w.heap.size, 1, none⟩ = some (.int .i64 c) ∧ W.cell? ⟨w.heap.size, 2, none⟩ = some (.slice (some ⟨b, o, none⟩) n k)) (first | with_reducible exact HK.out _ hb4 | with_reducible exact HK.out _ hb3 | with_reducible exact HK.out _ hb2 | with_reducible exact HK.out _ hb1 | exact HC.out | go_keep) (first | (go_at_call 97; (with_reducible refine (HA4.out _ (bt hB0.out hb3)).mono ?_); rintro e w4 ⟨rfl, hb4⟩; replace hb4 := bt hb3 hb4) | (go_at_call 97; (with_reducible refine (HA3.out _ (bt hB0.out hb2)).mono ?_); rintro e w3 ⟨rfl, hb3⟩; replace hb3 := bt hb2 hb3) | (go_at_call 97; (with_reducible refine (HA2.out _ (bt hB0.out hb1)).mono ?_); rintro e w2 ⟨rfl, hb2⟩; replace hb2 := bt hb1 hb2) | (go_at_call 97; (with_reducible refine (HA1.out _ (bt hB0.out (by first | exact Below.refl _ _ | exact (Below.refl _ _).drew | exact ((Below.refl _ _).drew).drew))).mono ?_); rintro e w1 ⟨rfl, hb1⟩; replace hb1 := bt (w := wr) (by first | exact Below.refl _ _ | exact (Below.refl _ _).drew | exact ((Below.refl _ _).drew).drew) hb1))
                  have H4 := Lib.hid (HST.out.to hb4)
                  have HB4 := Lib.hid (bt hB0.out hb4)
                  have p1 := H4.out.2.1.2.2.1
                  have p2 := H4.out.2.1.2.2.2.2 1
                  have p3 := H4.out.1.2.2.1
                  have p4 := H4.out.1.2.2.2.1
                  clear hb1 hb2 hb3 hb4 o1 o2 o3 o4 o51 g3 g4 g5 HA1 HA2 HA3 HA4 HK HC wq wu wy1 wy2 wy3
                  by_cases h4 : (y1 + y2 + y3 + y4) % 4 = 0
                  · have hnx := Lib.hid (show S + sumN (sqP c xs u) (q + 1) = S2 + 3 by rw [hS2.out]; show S + (sumN (sqP c xs u) q + sqP c xs u q) = _; rw [hyes.out h4]; omega)
                    have e4 : ((y1 + y2 + y3 + y4) % 4 == 0) = true := by simp [h4]
                    clear hyes hno h4
                    go_wp2
                    go_roundw
                    case rel => first | exact ⟨q + 1, S2 + 3, by omega, hnx.out.symm, by go_num, H4.out.setO1 ((S2 : Int) + 3), HB4.out.setCell (show w.heap.size ≤ w.heap.size + 1 + 1 by omega) _⟩ | ((repeat apply Exists.intro); refine ⟨?_, rfl⟩; exact ⟨q + 1, S2 + 3, by omega, hnx.out.symm, by go_num, H4.out.setO1 ((S2 : Int) + 3), HB4.out.setCell (show w.heap.size ≤ w.heap.size + 1 + 1 by omega) _⟩)
                    case measure => simp [intOf]; omega
                  · have hnx := Lib.hid (show S + sumN (sqP c xs u) (q + 1) = S2 + 0 by rw [hS2.out]; show S + (sumN (sqP c xs u) q + sqP c xs u q) = _; rw [hno.out h4]; omega)
                    have e4 : ((y1 + y2 + y3 + y4) % 4 == 0) = false := by simp [h4]
                    clear hyes hno h4
                    go_wp2
                    go_roundw
                    case rel => first | exact ⟨q + 1, S2, by omega, hnx.out.symm, by go_num, H4.out, HB4.out⟩ | ((repeat apply Exists.intro); refine ⟨?_, rfl⟩; exact ⟨q + 1, S2, by omega, hnx.out.symm, by go_num, H4.out, HB4.out⟩)
                    case measure => simp [intOf]; omega
                · clear hR3 o1 o2 o3 o4 o5 o51 g1 g2 g5 g6 g15
                  have hq1 := Lib.hid (show S2 = sumN (sqRow c xs) (u + 1) by rw [hS2.out, hS.out]; show _ = sumN (sqRow c xs) u + sqRow c xs u; unfold sqRow; rw [show q = c - 1 by omega])
                  go_wp2
                  go_roundw
                  case rel => exact ⟨u + 1, S2, by omega, hq1, by go_num, HST.out, hB⟩
                  case measure => simp [intOf]; omega
            · have hSr := Lib.hid (show S = squaresP r c xs by rw [hS.out]; unfold squaresP; rw [show u = r - 1 by omega])
              have hDk := Lib.hid (fun W (hW : Below w.heap.size w W) => darkCount_any r c (some ⟨b, o, none⟩) n k xs W (h.to hW) (by omega) hz)
              obtain ⟨hd1, hd2⟩ := (show 0 ≤ darkI xs ∧ darkI xs ≤ n by have := dark_bd hz.out xs.length; rwa [List.take_of_length_le (Nat.le_refl _), HL.out] at this)
              have hnb : 1 ≤ n ∧ n ≤ 1600000000 := by
                have e := hn.out
                have h2 := Nat.mul_le_mul hr.1 hc.1
                omega
              have hlast := Lib.hid (show lastP (darkI xs) ((r : Int) * (c : Int)) = 10 * Int.tdiv (10 * distP (darkI xs) n) n by unfold lastP; rw [show (r : Int) * (c : Int) = (n : Int) by rw [hn.out]; exact (Int.natCast_mul r c).symm])
              generalize darkI xs = D at *
              have o52 := o5 2
              have hRz := hR3
              obtain ⟨r1, r2, r3, r4, r5⟩ := hRz
              go_wp2_with fail
              refine (hDk.out _ hB).mono ?_
              rintro e w1 ⟨rfl, hb1⟩
              have HST1 := Lib.hid (HST.out.to hb1)
              have HB1 := Lib.hid (bt hB hb1)
              clear hb1 hB HST hDk r1 r2 r3 r4 r5 hR3 o1 o2 o3 o4 o5 o52 g1 g2 g3 g4 g5 g6 g15
              have hDist := Lib.hid (fun W => distance_any (2 * D - n) W (by omega))
              obtain ⟨Q, hQ⟩ : ∃ Q, max (2 * D - (n : Int)) (-(2 * D - n)) = Q := ⟨_, rfl⟩
              have hQ2 : 0 ≤ Q ∧ Q ≤ 4800000000 := by omega
              rw [hQ] at hDist
              have hlast2 := Lib.hid (show lastP D ((r : Int) * (c : Int)) = 10 * Int.tdiv (10 * Q) n by rw [hlast.out]; unfold distP; rw [hQ])
              clear hQ hlast
              have hT1 := Int.mul_ediv_add_emod (10 * Q) n
              obtain ⟨T, hT⟩ : ∃ T, 10 * Q / (n : Int) = T := ⟨_, rfl⟩
              have hT2 : 0 ≤ T := by rw [← hT]; exact Int.ediv_nonneg (by omega) (by omega)
              have hT3 : T ≤ 10 * Q := by rw [← hT]; exact Int.ediv_le_self _ (by omega)
              have hlast3 := Lib.hid (show lastP D ((r : Int) * (c : Int)) = 10 * T by rw [hlast2.out, Int.tdiv_eq_ediv_of_nonneg (by omega), hT])
              have hdk2 : ((n : Int) == 0) = false := by simp; omega
              obtain ⟨⟨g1, g2, g3, g4, g5, g6⟩, ⟨o1, o2, o3, o4, o5⟩, ⟨r1, r2, r3, r4, r5⟩, -, g15⟩ := HST1.out
              have o52 := o5 2
              have r50 := r5 0
              clear hT1 hlast2
              go_wp2_with fail
              refine (hDist.out _).mono ?_
              rintro e w' ⟨rfl, rfl⟩
              go_wp2_with fail
              obtain ⟨-, z1, z2, z3, -⟩ := (HST1.out.2.2.1).other (Q := w.heap.size + 1 + 1) (j := 2) (u := .int .i64 (10 * T)) n5
              obtain ⟨e0, e1, e2, e3⟩ := set3v (w1.setCell ⟨w.heap.size + 1 + 1, 2, none⟩ (.int .i64 (10 * T))) (w.heap.size + 1) (.int .i64 Y) (.int .i64 S) (.int .i64 (10 * T)) z1 z2 z3
              refine bodyPost_ret (v := .agg #[.int .i64 Y, .int .i64 S, .int .i64 (10 * T)]) (by simp [results, Try.results71, go_sem, e0, e1, e2]) rfl ⟨by rw [hlast3.out, ← hYr.out, ← hSr.out], ?_⟩
              have hl2 : w.heap.size ≤ w.heap.size + 1 + 1 := by omega
              have hl1 : w.heap.size ≤ w.heap.size + 1 := by omega
              exact (((HB1.out.setCell (p := ⟨w.heap.size + 1 + 1, 2, none⟩) hl2 _).setCell (p := ⟨w.heap.size + 1, 0, none⟩) hl1 _).setCell (p := ⟨w.heap.size + 1, 1, none⟩) hl1 _).setCell (p := ⟨w.heap.size + 1, 2, none⟩) hl1 _
end Go.Proofs.Ytckmenjbblgiiaa
