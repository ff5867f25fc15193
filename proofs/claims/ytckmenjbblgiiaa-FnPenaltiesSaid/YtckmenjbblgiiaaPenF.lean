/-
  Contracts: the penalty and its parts, by the reference and by the program.
  Conditions: none.
-/
import Derived.Test.YtckmenjbblgiiaaPenD
import Derived.Test.YtckmenjbblgiiaaPenE
import Derived.Test.YtckmenjbblgiiaaPatD
set_option linter.unusedVariables false
namespace Go.Proofs.Ytckmenjbblgiiaa
open Go.RowKit Go.G8
theorem pen_ok {r c : Int} {xs : List Int} {a : Option Addr} {n : Nat} {w : World} (h : Rd .i64 w a n xs) (hg : gridB r c xs = true) (hk : knownB xs = true) :
    ∃ (R C b o : Nat), r = (R : Int) ∧ c = (C : Int) ∧ a = some ⟨b, o, none⟩ ∧ Hid (n = R * C) ∧ n ≤ 40000 ∧ (1 ≤ R ∧ R ≤ 40000) ∧ (1 ≤ C ∧ C ≤ 40000) ∧ Hid (zo xs) := by
  obtain ⟨h1, h2, h3, h4⟩ := gridB_facts hg
  rw [h.len] at h4
  obtain ⟨R, rfl⟩ := Int.eq_ofNat_of_zero_le (show 0 ≤ r by omega)
  obtain ⟨C, rfl⟩ := Int.eq_ofNat_of_zero_le (show 0 ≤ c by omega)
  have e : n = R * C := by rw [← Int.natCast_mul] at h4; omega
  have hn : 1 ≤ n := by
    have := Nat.mul_le_mul (show 1 ≤ R by omega) (show 1 ≤ C by omega)
    omega
  obtain ⟨b, o, x, rfl, -⟩ := h.at_ (k := 0) (by omega)
  have hc : cellsB xs = true := by
    rw [gridB_yes (gridB_facts hg)] at hg
    exact hg
  exact ⟨R, C, b, o, rfl, rfl, rfl, e, by omega, by omega, by omega, zo_of hc hk⟩
theorem grid_keep {w W0 : World} {a b c : Value} (h : w.heap.size < W0.heap.size) (c0 : W0.cell? ⟨w.heap.size, 0, none⟩ = some a) (c1 : W0.cell? ⟨w.heap.size, 1, none⟩ = some b) (c2 : W0.cell? ⟨w.heap.size, 2, none⟩ = some c) :
    ∀ W, Below W0.heap.size W0 W → W.cell? ⟨w.heap.size, 0, none⟩ = some a ∧ W.cell? ⟨w.heap.size, 1, none⟩ = some b ∧ W.cell? ⟨w.heap.size, 2, none⟩ = some c :=
  fun W hW => ⟨((bcell hW).1 _ 0 h).trans c0, ((bcell hW).1 _ 1 h).trans c1, ((bcell hW).1 _ 2 h).trans c2⟩
def okB (r c : Int) (xs : List Int) : Bool := gridB r c xs && knownB xs
theorem pen_yes {r c : Int} {xs : List Int} (hg : gridB r c xs = true) (hk : knownB xs = true) : rPenParts r c xs = (rParts r c xs, 0) := if_pos ⟨hg, hk⟩
theorem pen_no {r c : Int} {xs : List Int} (h : ¬ (gridB r c xs = true ∧ knownB xs = true)) : rPenParts r c xs = ([], 1) ∧ rPenOf r c xs = (0, 1) := ⟨if_neg h, if_neg h⟩
theorem cells_yes {r c : Int} {xs : List Int} (hg : gridB r c xs = true) : cellsB xs = true := by
  rw [gridB_yes (gridB_facts hg)] at hg
  exact hg
theorem runsP_le {R C : Nat} (hR : R ≤ 40000) (hC : C ≤ 40000) (xs : List Int) : runsP R C xs ≤ 9600000000 := by
  have h1 := sumN_le (f := rowP C xs) (B := 120000) R (fun j _ => rowP_le hC xs j)
  have h2 := sumN_le (f := colP R C xs) (B := 120000) C (fun j _ => colP_le hR C xs j)
  unfold runsP
  omega
theorem squaresP_le {R C : Nat} (hR : R ≤ 40000) (hC : C ≤ 40000) (xs : List Int) : squaresP R C xs ≤ 4800000000 := by
  have h1 := sumN_le (f := sqRow C xs) (B := 120000) (R - 1) (fun j _ => sqRow_le2 hC xs j)
  unfold squaresP
  omega
theorem lastP_bd {xs : List Int} {n : Nat} (hz : zo xs) (hl : xs.length = n) (hn : 1 ≤ n ∧ n ≤ 40000) : 0 ≤ lastP (darkI xs) n ∧ lastP (darkI xs) n ≤ 12000000 := by
  have h1 := dark_bd hz xs.length
  rw [List.take_of_length_le (Nat.le_refl _), hl] at h1
  have h2 : 0 ≤ distP (darkI xs) n ∧ distP (darkI xs) n ≤ 40000 := by
    unfold distP darkI
    omega
  unfold lastP
  generalize distP (darkI xs) n = Q at *
  rw [Int.tdiv_eq_ediv_of_nonneg (by omega)]
  have h3 := Int.ediv_nonneg (show 0 ≤ 10 * Q by omega) (show (0 : Int) ≤ n by omega)
  have h4 := Int.ediv_le_self (n : Int) (show 0 ≤ 10 * Q by omega)
  omega
theorem l16Known_any (r c : Int) (a : Option Addr) (n k : Nat) (xs : List Int) (w : World) (h : Rd .i64 w a n xs) (hn : n ≤ 1000000000) :
    Calls Try.prog 72 #[.agg #[.int .i64 r, .int .i64 c, .slice a n k]] w (Ret (.bool (okB r c xs)) w) := by
  have HI := Lib.hid (fun W (hW : Below w.heap.size w W) => specIsGrid_any r c a n k xs W (h.to hW) hn)
  obtain ⟨hw0, hlt0, c0, c1, c2⟩ := grid_start w (.int .i64 r) (.int .i64 c) (.slice a n k) 41
  cases hg : gridB r c xs with
  | false =>
    rw [hg] at HI
    go_enter Try.func72, Try.ntmps72
    go_wp2_with fail
    refine (HI.out _ (by first | exact Below.refl _ _ | exact hw0)).mono ?_
    rintro e w1 ⟨rfl, hb1⟩
    have hB := (by first | exact bt hw0 hb1 | exact hb1 : Below w.heap.size w w1)
    go_wp2_with fail
    go_ret
    exact ⟨by unfold okB; rw [hg]; rfl, hB⟩
  | true =>
    rw [hg] at HI
    have HH := Lib.hid (fun W (hW : Below w.heap.size w W) => l05Has_any a n k xs W (h.to hW) hn (cells_yes hg))
    go_enter Try.func72, Try.ntmps72
    go_wp2_with fail
    refine (HI.out _ (by first | exact Below.refl _ _ | exact hw0)).mono ?_
    rintro e w1 ⟨rfl, hb1⟩
    have hB := (by first | exact bt hw0 hb1 | exact hb1 : Below w.heap.size w w1)
    have d2 := ((bcell hb1).1 w.heap.size 2 (by first | exact hlt0 | (simp; done))).trans c2
    go_wp2_with fail
    refine (HH.out _ hB).mono ?_
    rintro e w2 ⟨rfl, hb2⟩
    have hB2 := bt hB hb2
    cases hk : knownB xs
    all_goals go_wp2_with fail
    all_goals go_ret
    all_goals exact ⟨by unfold okB; rw [hg, hk]; rfl, hB2⟩
set_option maxHeartbeats 1000000 in
theorem specPenaltyParts_any (r c : Int) (a : Option Addr) (n k : Nat) (xs : List Int) (w : World) (h : Rd .i64 w a n xs) (hn : n ≤ 1000000000) (hk : n ≤ k ∧ k ≤ 9223372036854775807) :
    Calls Try.prog 28 #[.agg #[.int .i64 r, .int .i64 c, .slice a n k]] w (RetRow2 .i64 2 (rPenParts r c xs).1 (.int .i64 (rPenParts r c xs).2) w) := by
  have HK := Lib.hid (fun W (hW : Below w.heap.size w W) => l16Known_any r c a n k xs W (h.to hW) (by omega))
  by_cases hok : gridB r c xs = true ∧ knownB xs = true
  · have hr := Lib.hid (pen_yes hok.1 hok.2)
    rw [show okB r c xs = true by unfold okB; rw [hok.1, hok.2]; rfl] at HK
    obtain ⟨R, C, b, o, rfl, rfl, rfl, hRC, hn4, hR, hC, hz⟩ := pen_ok h hok.1 hok.2
    have HP := Lib.hid (fun W (hW : Below w.heap.size w W) => l16Parts_any R C b o n k xs W (h.to hW) hRC hn4 (by omega) hR hC hz)
    clear hok
    obtain ⟨hw0, hlt0, c0, c1, c2⟩ := grid_start w (.int .i64 (R : Int)) (.int .i64 (C : Int)) (.slice (some ⟨b, o, none⟩) n k) 41
    go_enter Try.func28, Try.ntmps28
    go_wp2_with fail
    generalize (w.alloc (.cells #[.int .i64 (R : Int), .int .i64 (C : Int), .slice (some ⟨b, o, none⟩) n k] 41)) = W0 at *
    have HG := Lib.hid (grid_keep hlt0 c0 c1 c2)
    clear c0 c1 c2
    refine (HK.out _ hw0).mono ?_
    rintro e w1 ⟨rfl, hb1⟩; obtain ⟨d0, d1, d2⟩ := HG.out _ hb1; have hB1 := bt hw0 hb1
    go_wp2_with fail
    refine (HP.out _ hB1).mono ?_
    rintro e w2 ⟨a2, n2, c2, rfl, ho, hb2⟩
    have hB2 := bt hB1 hb2
    replace ho := ho.more hB1.size
    go_wp2_with fail
    go_ret2
    exact retRow2_of hr.out ho hB2
  · have hr := Lib.hid (pen_no hok).1
    rw [show okB r c xs = false by unfold okB; rw [Bool.eq_false_iff]; intro e; rw [Bool.and_eq_true] at e; exact hok e] at HK
    clear hok
    obtain ⟨hw0, hlt0, c0, c1, c2⟩ := grid_start w (.int .i64 r) (.int .i64 c) (.slice a n k) 41
    go_enter Try.func28, Try.ntmps28
    go_wp2_with fail
    generalize (w.alloc (.cells #[.int .i64 r, .int .i64 c, .slice a n k] 41)) = W0 at *
    have HG := Lib.hid (grid_keep hlt0 c0 c1 c2)
    clear c0 c1 c2
    refine (HK.out _ hw0).mono ?_
    rintro e w1 ⟨rfl, hb1⟩; obtain ⟨d0, d1, d2⟩ := HG.out _ hb1; have hB1 := bt hw0 hb1
    go_wp2_with fail
    go_ret2
    exact retRow2_nil hr.out hB1
theorem three_of {E B : Nat} {w : World} {a : Option Addr} {n c : Nat} {x y z : Int} (h : Ow .i64 E B w a n c [x, y, z]) : n = 3 ∧ ∃ g, a = some ⟨g, 0, none⟩ ∧ w.cell? ⟨g, 0, none⟩ = some (.int .i64 x) ∧ w.cell? ⟨g, 1, none⟩ = some (.int .i64 y) ∧ w.cell? ⟨g, 2, none⟩ = some (.int .i64 z) := by
  have hn : n = 3 := h.len.symm
  subst hn
  obtain ⟨g, rfl, -, -⟩ := h.form (by omega)
  exact ⟨rfl, g, rfl, h.cell (k := 0) rfl, h.cell (k := 1) rfl, h.cell (k := 2) rfl⟩
set_option maxHeartbeats 1000000 in
theorem specPenaltyOf_any (r c : Int) (a : Option Addr) (n k : Nat) (xs : List Int) (w : World) (h : Rd .i64 w a n xs) (hn : n ≤ 1000000000) (hk : n ≤ k ∧ k ≤ 9223372036854775807) :
    Calls Try.prog 24 #[.agg #[.int .i64 r, .int .i64 c, .slice a n k]] w (Ret (.tuple #[.int .i64 (rPenOf r c xs).1, .int .i64 (rPenOf r c xs).2]) w) := by
  have HP := Lib.hid (fun W (hW : Below w.heap.size w W) => specPenaltyParts_any r c a n k xs W (h.to hW) hn hk)
  by_cases hok : gridB r c xs = true ∧ knownB xs = true
  · rw [pen_yes hok.1 hok.2] at HP
    obtain ⟨R, C, b, o, rfl, rfl, rfl, hRC, hn4, hR, hC, hz⟩ := pen_ok h hok.1 hok.2
    have hr := Lib.hid (show rPenOf R C xs = (((runsP R C xs : Nat) : Int) + ((squaresP R C xs : Nat) : Int) + lastP (darkI xs) ((R : Int) * (C : Int)), 0) from if_pos hok)
    have b1 := runsP_le hR.2 hC.2 xs
    have b2 := squaresP_le hR.2 hC.2 xs
    have b3 := lastP_bd hz.out h.len ⟨by have := Nat.mul_le_mul hR.1 hC.1; have := hRC.out; omega, hn4⟩
    rw [show (n : Int) = (R : Int) * (C : Int) by rw [hRC.out]; exact Int.natCast_mul R C] at b3
    unfold rParts at HP
    rw [Int.toNat_natCast, Int.toNat_natCast] at HP
    generalize runsP R C xs = X at *
    generalize squaresP R C xs = Y at *
    generalize lastP (darkI xs) ((R : Int) * (C : Int)) = Z at *
    clear hok
    obtain ⟨hw0, hlt0, c0, c1, c2⟩ := grid_start w (.int .i64 (R : Int)) (.int .i64 (C : Int)) (.slice (some ⟨b, o, none⟩) n k) 41
    go_enter Try.func24, Try.ntmps24
    go_wp2_with fail
    generalize (w.alloc (.cells #[.int .i64 (R : Int), .int .i64 (C : Int), .slice (some ⟨b, o, none⟩) n k] 41)) = W0 at *
    have HG := Lib.hid (grid_keep hlt0 c0 c1 c2)
    clear c0 c1 c2
    refine (HP.out _ hw0).mono ?_
    rintro e w1 ⟨a1, n1, c1, rfl, ho, hb1⟩; have hB1 := bt hw0 hb1
    obtain ⟨rfl, g, rfl, q1, q2, q3⟩ := three_of ho
    go_wp2_with fail
    go_quiet (fail)
    go_wp2_with fail
    go_ret2
    exact ⟨by rw [hr.out]; rfl, below_drewN hB1 _⟩
  · have hr := Lib.hid (pen_no hok).2
    rw [(pen_no hok).1] at HP
    clear hok
    obtain ⟨hw0, hlt0, c0, c1, c2⟩ := grid_start w (.int .i64 r) (.int .i64 c) (.slice a n k) 41
    go_enter Try.func24, Try.ntmps24
    go_wp2_with fail
    generalize (w.alloc (.cells #[.int .i64 r, .int .i64 c, .slice a n k] 41)) = W0 at *
    have HG := Lib.hid (grid_keep hlt0 c0 c1 c2)
    clear c0 c1 c2
    refine (HP.out _ hw0).mono ?_
    rintro e w1 ⟨a1, n1, c1, rfl, ho, hb1⟩; have hB1 := bt hw0 hb1
    go_wp2_with fail
    go_ret2
    exact ⟨ret2_int hr.out, hB1⟩
set_option maxHeartbeats 1000000 in
theorem implPenaltyOf_any (r c : Int) (a : Option Addr) (n k : Nat) (xs : List Int) (w : World) (h : Rd .i64 w a n xs) (hn : n ≤ 1000000000) (hk : n ≤ k ∧ k ≤ 9223372036854775807) :
    Calls Try.prog 26 #[.agg #[.int .i64 r, .int .i64 c, .slice a n k]] w (Ret (.tuple #[.int .i64 (rPenOf r c xs).1, .int .i64 (rPenOf r c xs).2]) w) := by
  have HI := Lib.hid (fun W (hW : Below w.heap.size w W) => implIsGrid_any r c a n k xs W (h.to hW) (by omega))
  have HK := Lib.hid (fun W (hW : Below w.heap.size w W) => known_any r c a n k xs W (h.to hW) (by omega))
  cases hg : gridB r c xs with
  | false =>
    rw [hg] at HI
    have hr := Lib.hid (pen_no (r := r) (c := c) (xs := xs) (fun e => by rw [hg] at e; exact absurd e.1 (by decide))).2
    obtain ⟨hw0, hlt0, c0, c1, c2⟩ := grid_start w (.int .i64 r) (.int .i64 c) (.slice a n k) 41
    go_enter Try.func26, Try.ntmps26
    go_wp2_with fail
    generalize (w.alloc (.cells #[.int .i64 r, .int .i64 c, .slice a n k] 41)) = W0 at *
    have HG := Lib.hid (grid_keep hlt0 c0 c1 c2)
    clear c0 c1 c2
    refine (HI.out _ hw0).mono ?_
    rintro e w1 ⟨rfl, hb1⟩; obtain ⟨d0, d1, d2⟩ := HG.out _ hb1; have hB1 := bt hw0 hb1
    go_wp2_with fail
    go_ret2
    exact ⟨ret2_int hr.out, hB1⟩
  | true =>
    rw [hg] at HI
    cases hk2 : knownB xs with
    | false =>
      rw [hk2] at HK
      have hr := Lib.hid (pen_no (r := r) (c := c) (xs := xs) (fun e => by rw [hk2] at e; exact absurd e.2 (by decide))).2
      obtain ⟨hw0, hlt0, c0, c1, c2⟩ := grid_start w (.int .i64 r) (.int .i64 c) (.slice a n k) 41
      go_enter Try.func26, Try.ntmps26
      go_wp2_with fail
      generalize (w.alloc (.cells #[.int .i64 r, .int .i64 c, .slice a n k] 41)) = W0 at *
      have HG := Lib.hid (grid_keep hlt0 c0 c1 c2)
      clear c0 c1 c2
      refine (HI.out _ hw0).mono ?_
      rintro e w1 ⟨rfl, hb1⟩; obtain ⟨d0, d1, d2⟩ := HG.out _ hb1; have hB1 := bt hw0 hb1
      go_wp2_with fail
      refine (HK.out _ hB1).mono ?_
      rintro e w2 ⟨rfl, hb2⟩
      have hB2 := bt hB1 hb2
      obtain ⟨f0, f1, f2⟩ := HG.out _ (bt hb1 hb2)
      go_wp2_with fail
      go_ret2
      exact ⟨ret2_int hr.out, hB2⟩
    | true =>
      rw [hk2] at HK
      obtain ⟨R, C, b, o, rfl, rfl, rfl, hRC, hn4, hR, hC, hz⟩ := pen_ok h hg hk2
      have hr := Lib.hid (show rPenOf R C xs = (((runsP R C xs : Nat) : Int) + ((squaresP R C xs : Nat) : Int) + lastP (darkI xs) ((R : Int) * (C : Int)), 0) from if_pos ⟨hg, hk2⟩)
      have b1 := runsP_le hR.2 hC.2 xs
      have b2 := squaresP_le hR.2 hC.2 xs
      have b3 := lastP_bd hz.out h.len ⟨by have := Nat.mul_le_mul hR.1 hC.1; have := hRC.out; omega, hn4⟩
      rw [show (n : Int) = (R : Int) * (C : Int) by rw [hRC.out]; exact Int.natCast_mul R C] at b3
      have HP := Lib.hid (fun W (hW : Below w.heap.size w W) => penalty_any R C b o n k xs W (h.to hW) hRC hn4 hR hC hz)
      generalize runsP R C xs = X at *
      generalize squaresP R C xs = Y at *
      generalize lastP (darkI xs) ((R : Int) * (C : Int)) = Z at *
      clear hg hk2
      obtain ⟨hw0, hlt0, c0, c1, c2⟩ := grid_start w (.int .i64 (R : Int)) (.int .i64 (C : Int)) (.slice (some ⟨b, o, none⟩) n k) 41
      go_enter Try.func26, Try.ntmps26
      go_wp2_with fail
      generalize (w.alloc (.cells #[.int .i64 (R : Int), .int .i64 (C : Int), .slice (some ⟨b, o, none⟩) n k] 41)) = W0 at *
      have HG := Lib.hid (grid_keep hlt0 c0 c1 c2)
      clear c0 c1 c2
      refine (HI.out _ hw0).mono ?_
      rintro e w1 ⟨rfl, hb1⟩; obtain ⟨d0, d1, d2⟩ := HG.out _ hb1; have hB1 := bt hw0 hb1
      go_wp2_with fail
      refine (HK.out _ hB1).mono ?_
      rintro e w2 ⟨rfl, hb2⟩
      have hB2 := bt hB1 hb2
      obtain ⟨f0, f1, f2⟩ := HG.out _ (bt hb1 hb2)
      go_wp2_with fail
      refine (HP.out _ hB2).mono ?_
      rintro e w3 ⟨rfl, hb3⟩
      have hB3 := bt hB2 hb3
      go_wp2_with fail
      go_ret2
      exact ⟨by rw [hr.out]; rfl, hB3.alloc hB3.size _⟩
set_option maxHeartbeats 1000000 in
theorem implPenaltyParts_any (r c : Int) (a : Option Addr) (n k : Nat) (xs : List Int) (w : World) (h : Rd .i64 w a n xs) (hn : n ≤ 1000000000) (hk : n ≤ k ∧ k ≤ 9223372036854775807) :
    Calls Try.prog 29 #[.agg #[.int .i64 r, .int .i64 c, .slice a n k]] w (RetRow2 .i64 98 (rPenParts r c xs).1 (.int .i64 (rPenParts r c xs).2) w) := by
  have HI := Lib.hid (fun W (hW : Below w.heap.size w W) => implIsGrid_any r c a n k xs W (h.to hW) (by omega))
  have HK := Lib.hid (fun W (hW : Below w.heap.size w W) => known_any r c a n k xs W (h.to hW) (by omega))
  cases hg : gridB r c xs with
  | false =>
    rw [hg] at HI
    have hr := Lib.hid (pen_no (r := r) (c := c) (xs := xs) (fun e => by rw [hg] at e; exact absurd e.1 (by decide))).1
    obtain ⟨hw0, hlt0, c0, c1, c2⟩ := grid_start w (.int .i64 r) (.int .i64 c) (.slice a n k) 41
    go_enter Try.func29, Try.ntmps29
    go_wp2_with fail
    generalize (w.alloc (.cells #[.int .i64 r, .int .i64 c, .slice a n k] 41)) = W0 at *
    have HG := Lib.hid (grid_keep hlt0 c0 c1 c2)
    clear c0 c1 c2
    refine (HI.out _ hw0).mono ?_
    rintro e w1 ⟨rfl, hb1⟩; obtain ⟨d0, d1, d2⟩ := HG.out _ hb1; have hB1 := bt hw0 hb1
    go_wp2_with fail
    go_ret2
    exact retRow2_nil hr.out hB1
  | true =>
    rw [hg] at HI
    cases hk2 : knownB xs with
    | false =>
      rw [hk2] at HK
      have hr := Lib.hid (pen_no (r := r) (c := c) (xs := xs) (fun e => by rw [hk2] at e; exact absurd e.2 (by decide))).1
      obtain ⟨hw0, hlt0, c0, c1, c2⟩ := grid_start w (.int .i64 r) (.int .i64 c) (.slice a n k) 41
      go_enter Try.func29, Try.ntmps29
      go_wp2_with fail
      generalize (w.alloc (.cells #[.int .i64 r, .int .i64 c, .slice a n k] 41)) = W0 at *
      have HG := Lib.hid (grid_keep hlt0 c0 c1 c2)
      clear c0 c1 c2
      refine (HI.out _ hw0).mono ?_
      rintro e w1 ⟨rfl, hb1⟩; obtain ⟨d0, d1, d2⟩ := HG.out _ hb1; have hB1 := bt hw0 hb1
      go_wp2_with fail
      refine (HK.out _ hB1).mono ?_
      rintro e w2 ⟨rfl, hb2⟩
      have hB2 := bt hB1 hb2
      obtain ⟨f0, f1, f2⟩ := HG.out _ (bt hb1 hb2)
      go_wp2_with fail
      go_ret2
      exact retRow2_nil hr.out hB2
    | true =>
      rw [hk2] at HK
      have hr := Lib.hid (pen_yes hg hk2)
      obtain ⟨R, C, b, o, rfl, rfl, rfl, hRC, hn4, hR, hC, hz⟩ := pen_ok h hg hk2
      have HP := Lib.hid (fun W (hW : Below w.heap.size w W) => penalty_any R C b o n k xs W (h.to hW) hRC hn4 hR hC hz)
      unfold rParts at hr
      rw [Int.toNat_natCast, Int.toNat_natCast] at hr
      generalize runsP R C xs = X at *
      generalize squaresP R C xs = Y at *
      generalize lastP (darkI xs) ((R : Int) * (C : Int)) = Z at *
      clear hg hk2
      obtain ⟨hw0, hlt0, c0, c1, c2⟩ := grid_start w (.int .i64 (R : Int)) (.int .i64 (C : Int)) (.slice (some ⟨b, o, none⟩) n k) 41
      go_enter Try.func29, Try.ntmps29
      go_wp2_with fail
      generalize (w.alloc (.cells #[.int .i64 (R : Int), .int .i64 (C : Int), .slice (some ⟨b, o, none⟩) n k] 41)) = W0 at *
      have HG := Lib.hid (grid_keep hlt0 c0 c1 c2)
      clear c0 c1 c2
      refine (HI.out _ hw0).mono ?_
      rintro e w1 ⟨rfl, hb1⟩; obtain ⟨d0, d1, d2⟩ := HG.out _ hb1; have hB1 := bt hw0 hb1
      go_wp2_with fail
      refine (HK.out _ hB1).mono ?_
      rintro e w2 ⟨rfl, hb2⟩
      have hB2 := bt hB1 hb2
      obtain ⟨f0, f1, f2⟩ := HG.out _ (bt hb1 hb2)
      go_wp2_with fail
      refine (HP.out _ hB2).mono ?_
      rintro e w3 ⟨rfl, hb3⟩
      have hB3 := bt hB2 hb3
      have hlit := Ow.lit (K := .i64) (E := 98) (B := w.heap.size) (xs := [(X : Int), (Y : Int), Z]) w3 hB3.size (by simp)
      go_wp2_with fail
      go_ret2
      exact retRow2_of hr.out hlit (hB3.alloc hB3.size _)
end Go.Proofs.Ytckmenjbblgiiaa
