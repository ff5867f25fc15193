/-
  Contracts: whether a mask turns a cell, by the reference and by the program.
  Conditions: none.
-/
import Derived.Test.YtagdkaigdehohaaProg
import Derived.Test.YtagdkaigdehohaaRange
import Derived.Test.YtagdkaigdehohaaMapTab
set_option linter.unusedVariables false
namespace Go.Proofs.Ytagdkaigdehohaa
open Go.RowKit Go.G8 Go.Maps
def turnsB (m r c : Int) : Bool :=
  if m = 0 then (r + c) % 2 == 0 else if m = 1 then r % 2 == 0 else if m = 2 then c % 3 == 0 else if m = 3 then (r + c) % 3 == 0 else if m = 4 then (r / 2 + c / 3) % 2 == 0
  else if m = 5 then r * c % 3 == 0 else if m = 6 then decide ((r + 2 * c) % 5 < 2) else (r * r + c) % 4 == 0
def maskB (m r c : Int) : Bool := decide (0 ≤ m ∧ m ≤ 7) && (decide (0 ≤ r ∧ r ≤ 40000) && (decide (0 ≤ c ∧ c ≤ 40000) && turnsB m r c))
theorem prod_bd {r c : Int} (h1 : 0 ≤ r ∧ r ≤ 40000) (h2 : 0 ≤ c ∧ c ≤ 40000) : 0 ≤ r * c ∧ r * c ≤ 1600000000 := by
  have a := Int.mul_le_mul h1.2 h2.2 (by omega) (by omega)
  have b := Int.mul_nonneg h1.1 h2.1
  omega
set_option maxHeartbeats 1000000 in
theorem l16Turns_any (m r c : Int) (w : World) (hm : 0 ≤ m ∧ m ≤ 7) (hr : 0 ≤ r ∧ r ≤ 40000) (hc : 0 ≤ c ∧ c ≤ 40000) :
    Calls Try.prog 62 #[.int .i64 m, .int .i64 r, .int .i64 c] w (RetS (.bool (turnsB m r c)) w) := by
  obtain ⟨p1, p2⟩ := prod_bd hr hc
  obtain ⟨q1, q2⟩ := prod_bd hr hr
  obtain ⟨r1, r2⟩ := hr
  obtain ⟨c1, c2⟩ := hc
  obtain rfl | rfl | rfl | rfl | rfl | rfl | rfl | rfl : m = 0 ∨ m = 1 ∨ m = 2 ∨ m = 3 ∨ m = 4 ∨ m = 5 ∨ m = 6 ∨ m = 7 := by omega
  · go_enter Try.func62, Try.ntmps62
    go_wp2
    go_ret
    exact ⟨rfl, rfl⟩
  · go_enter Try.func62, Try.ntmps62
    go_wp2
    go_ret
    exact ⟨rfl, rfl⟩
  · go_enter Try.func62, Try.ntmps62
    go_wp2
    go_ret
    exact ⟨rfl, rfl⟩
  · go_enter Try.func62, Try.ntmps62
    go_wp2
    go_ret
    exact ⟨rfl, rfl⟩
  · go_enter Try.func62, Try.ntmps62
    go_wp2
    go_ret
    exact ⟨rfl, rfl⟩
  · go_enter Try.func62, Try.ntmps62
    go_wp2
    go_ret
    exact ⟨rfl, rfl⟩
  · go_enter Try.func62, Try.ntmps62
    go_wp2
    go_ret
    exact ⟨rfl, rfl⟩
  · go_enter Try.func62, Try.ntmps62
    go_wp2
    go_ret
    exact ⟨rfl, rfl⟩
theorem l16Mask_yes (m : Int) (w : World) (hm : 0 ≤ m ∧ m ≤ 7) : Calls Try.prog 60 #[.int .i64 m] w (RetS (.bool true) w) := by
  go_enter Try.func60, Try.ntmps60
  go_wp2_with (go_at_call 61; refine (l01In_yes _ _ _ _ (by omega)).mono ?_; rintro e w' ⟨rfl, rfl⟩)
  go_ret
  exact ⟨rfl, rfl⟩
theorem l16Mask_no (m : Int) (w : World) (hm : ¬ (0 ≤ m ∧ m ≤ 7)) : Calls Try.prog 60 #[.int .i64 m] w (RetS (.bool false) w) := by
  go_enter Try.func60, Try.ntmps60
  go_wp2_with (go_at_call 61; refine (l01In_no _ _ _ _ (by omega)).mono ?_; rintro e w' ⟨rfl, rfl⟩)
  go_ret
  exact ⟨rfl, rfl⟩
set_option maxHeartbeats 1000000 in
theorem specMaskTurns_any (m r c : Int) (w : World) :
    Calls Try.prog 15 #[.int .i64 m, .int .i64 r, .int .i64 c] w (RetS (.bool (maskB m r c)) w) := by
  by_cases hm : 0 ≤ m ∧ m ≤ 7
  · have HM := Lib.hid (fun w => l16Mask_yes m w hm)
    by_cases hr : 0 ≤ r ∧ r ≤ 40000
    · by_cases hc : 0 ≤ c ∧ c ≤ 40000
      · have hres := Lib.hid (show maskB m r c = turnsB m r c by unfold maskB; rw [decide_eq_true hm, decide_eq_true hr, decide_eq_true hc]; rfl)
        have HT := Lib.hid (fun w => l16Turns_any m r c w hm hr hc)
        go_enter Try.func15, Try.ntmps15
        go_wp2_with (first | (go_at_call 60; refine (HM.out _).mono ?_; rintro e w' ⟨rfl, rfl⟩) | (go_at_call 61; refine (l01In_yes _ _ _ _ (by omega)).mono ?_; rintro e w' ⟨rfl, rfl⟩) | (go_at_call 62; refine (HT.out _).mono ?_; rintro e w' ⟨rfl, rfl⟩))
        go_ret
        exact ⟨ret_bool hres.out.symm, rfl⟩
      · have hres := Lib.hid (show maskB m r c = false by unfold maskB; rw [decide_eq_true hm, decide_eq_true hr, decide_eq_false hc]; rfl)
        go_enter Try.func15, Try.ntmps15
        go_wp2_with (first | (go_at_call 60; refine (HM.out _).mono ?_; rintro e w' ⟨rfl, rfl⟩) | (go_at_call 61; refine (l01In_yes _ _ _ _ (by omega)).mono ?_; rintro e w' ⟨rfl, rfl⟩) | (go_at_call 61; refine (l01In_no _ _ _ _ (by omega)).mono ?_; rintro e w' ⟨rfl, rfl⟩))
        go_ret
        exact ⟨ret_bool hres.out.symm, rfl⟩
    · have hres := Lib.hid (show maskB m r c = false by unfold maskB; rw [decide_eq_true hm, decide_eq_false hr]; rfl)
      go_enter Try.func15, Try.ntmps15
      go_wp2_with (first | (go_at_call 60; refine (HM.out _).mono ?_; rintro e w' ⟨rfl, rfl⟩) | (go_at_call 61; refine (l01In_no _ _ _ _ (by omega)).mono ?_; rintro e w' ⟨rfl, rfl⟩))
      go_ret
      exact ⟨ret_bool hres.out.symm, rfl⟩
  · have HM := Lib.hid (fun w => l16Mask_no m w hm)
    have hres := Lib.hid (show maskB m r c = false by unfold maskB; rw [decide_eq_false hm]; rfl)
    go_enter Try.func15, Try.ntmps15
    go_wp2_with (go_at_call 60; refine (HM.out _).mono ?_; rintro e w' ⟨rfl, rfl⟩)
    go_ret
    exact ⟨ret_bool hres.out.symm, rfl⟩
theorem turn0_any (r c : Int) (w : World) (hr : 0 ≤ r ∧ r ≤ 40000) (hc : 0 ≤ c ∧ c ≤ 40000) :
    Calls Try.prog 95 #[.int .i64 r, .int .i64 c] w (RetS (.bool (turnsB 0 r c)) w) := by
  obtain ⟨p1, p2⟩ := prod_bd hr hc
  obtain ⟨q1, q2⟩ := prod_bd hr hr
  obtain ⟨r1, r2⟩ := hr
  obtain ⟨c1, c2⟩ := hc
  go_enter Try.func95, Try.ntmps95
  go_wp2
  go_ret
  exact ⟨rfl, rfl⟩
theorem turn1_any (r c : Int) (w : World) (hr : 0 ≤ r ∧ r ≤ 40000) (hc : 0 ≤ c ∧ c ≤ 40000) :
    Calls Try.prog 96 #[.int .i64 r, .int .i64 c] w (RetS (.bool (turnsB 1 r c)) w) := by
  obtain ⟨p1, p2⟩ := prod_bd hr hc
  obtain ⟨q1, q2⟩ := prod_bd hr hr
  obtain ⟨r1, r2⟩ := hr
  obtain ⟨c1, c2⟩ := hc
  go_enter Try.func96, Try.ntmps96
  go_wp2
  go_ret
  exact ⟨rfl, rfl⟩
theorem turn2_any (r c : Int) (w : World) (hr : 0 ≤ r ∧ r ≤ 40000) (hc : 0 ≤ c ∧ c ≤ 40000) :
    Calls Try.prog 97 #[.int .i64 r, .int .i64 c] w (RetS (.bool (turnsB 2 r c)) w) := by
  obtain ⟨p1, p2⟩ := prod_bd hr hc
  obtain ⟨q1, q2⟩ := prod_bd hr hr
  obtain ⟨r1, r2⟩ := hr
  obtain ⟨c1, c2⟩ := hc
  go_enter Try.func97, Try.ntmps97
  go_wp2
  go_ret
  exact ⟨rfl, rfl⟩
theorem turn3_any (r c : Int) (w : World) (hr : 0 ≤ r ∧ r ≤ 40000) (hc : 0 ≤ c ∧ c ≤ 40000) :
    Calls Try.prog 98 #[.int .i64 r, .int .i64 c] w (RetS (.bool (turnsB 3 r c)) w) := by
  obtain ⟨p1, p2⟩ := prod_bd hr hc
  obtain ⟨q1, q2⟩ := prod_bd hr hr
  obtain ⟨r1, r2⟩ := hr
  obtain ⟨c1, c2⟩ := hc
  go_enter Try.func98, Try.ntmps98
  go_wp2
  go_ret
  exact ⟨rfl, rfl⟩
theorem turn4_any (r c : Int) (w : World) (hr : 0 ≤ r ∧ r ≤ 40000) (hc : 0 ≤ c ∧ c ≤ 40000) :
    Calls Try.prog 99 #[.int .i64 r, .int .i64 c] w (RetS (.bool (turnsB 4 r c)) w) := by
  obtain ⟨p1, p2⟩ := prod_bd hr hc
  obtain ⟨q1, q2⟩ := prod_bd hr hr
  obtain ⟨r1, r2⟩ := hr
  obtain ⟨c1, c2⟩ := hc
  go_enter Try.func99, Try.ntmps99
  go_wp2
  go_ret
  exact ⟨rfl, rfl⟩
theorem turn5_any (r c : Int) (w : World) (hr : 0 ≤ r ∧ r ≤ 40000) (hc : 0 ≤ c ∧ c ≤ 40000) :
    Calls Try.prog 100 #[.int .i64 r, .int .i64 c] w (RetS (.bool (turnsB 5 r c)) w) := by
  obtain ⟨p1, p2⟩ := prod_bd hr hc
  obtain ⟨q1, q2⟩ := prod_bd hr hr
  obtain ⟨r1, r2⟩ := hr
  obtain ⟨c1, c2⟩ := hc
  go_enter Try.func100, Try.ntmps100
  go_wp2
  go_ret
  exact ⟨rfl, rfl⟩
theorem turn6_any (r c : Int) (w : World) (hr : 0 ≤ r ∧ r ≤ 40000) (hc : 0 ≤ c ∧ c ≤ 40000) :
    Calls Try.prog 101 #[.int .i64 r, .int .i64 c] w (RetS (.bool (turnsB 6 r c)) w) := by
  obtain ⟨p1, p2⟩ := prod_bd hr hc
  obtain ⟨q1, q2⟩ := prod_bd hr hr
  obtain ⟨r1, r2⟩ := hr
  obtain ⟨c1, c2⟩ := hc
  go_enter Try.func101, Try.ntmps101
  go_wp2
  go_ret
  exact ⟨rfl, rfl⟩
theorem turn7_any (r c : Int) (w : World) (hr : 0 ≤ r ∧ r ≤ 40000) (hc : 0 ≤ c ∧ c ≤ 40000) :
    Calls Try.prog 102 #[.int .i64 r, .int .i64 c] w (RetS (.bool (turnsB 7 r c)) w) := by
  obtain ⟨p1, p2⟩ := prod_bd hr hc
  obtain ⟨q1, q2⟩ := prod_bd hr hr
  obtain ⟨r1, r2⟩ := hr
  obtain ⟨c1, c2⟩ := hc
  go_enter Try.func102, Try.ntmps102
  go_wp2
  go_ret
  exact ⟨rfl, rfl⟩
def condL : List (Int × Value) := [(0, .func (.func 95) #[] #[]), (1, .func (.func 96) #[] #[]), (2, .func (.func 97) #[] #[]), (3, .func (.func 98) #[] #[]), (4, .func (.func 99) #[] #[]), (5, .func (.func 100) #[] #[]), (6, .func (.func 101) #[] #[]), (7, .func (.func 102) #[] #[])]
theorem condL_fits : ∀ p ∈ condL, fits .i64 p.1 := by
  intro p hp
  show -9223372036854775808 ≤ p.1 ∧ p.1 ≤ 9223372036854775807
  simp only [condL, List.mem_cons, List.not_mem_nil, or_false] at hp
  rcases hp with rfl | rfl | rfl | rfl | rfl | rfl | rfl | rfl <;> decide
theorem fits_near {x : Int} (h : -100 ≤ x ∧ x ≤ 100) : fits .i64 x := by
  show -9223372036854775808 ≤ x ∧ x ≤ 9223372036854775807
  omega
theorem small_fits (L : List (Int × Value)) (h : (L.all fun p => decide (-100 ≤ p.1 ∧ p.1 ≤ 100)) = true) : ∀ p ∈ L, fits .i64 p.1 := fun p hp => by
  have := List.all_eq_true.1 h p hp
  simp at this
  show -9223372036854775808 ≤ p.1 ∧ p.1 ≤ 9223372036854775807
  omega
theorem small_ne (L : List (Int × Value)) (x : Int) (h : (L.all fun p => decide (p.1 ≠ x)) = true) : ∀ p ∈ L, p.1 ≠ x := fun p hp => by
  have := List.all_eq_true.1 h p hp
  simpa using this
set_option maxRecDepth 100000 in
set_option maxHeartbeats 1000000 in
theorem conditions_any (w : World) : Calls Try.prog 63 #[] w (fun e w' => e = .returned (.map (some w.heap.size)) ∧ Tab w' w.heap.size condL ∧ w.heap.size < w'.heap.size ∧ Below w.heap.size w w') := by
  have hmm := @run_makeMap Try.prog
  have T0 := Tab.made w
  have hb0 : Below w.heap.size w (w.alloc (.map #[] 0)) := Below.alloc (Below.refl _ _) (Nat.le_refl _) _
  have hl0 : w.heap.size < (w.alloc (.map #[] 0)).heap.size := by simp
  have huM := Try.underlying71
  have huK := Try.underlying2
  obtain ⟨w1, run0, T1, g0⟩ := T0.update (P := Try.prog) huM huK (small_fits _ (by rfl)) (x := 0) (fits_near (by decide)) (small_ne _ _ (by rfl)) (.func (.func 95) #[] #[])
  have hb1 := hb0.grown g0 (Nat.le_of_lt hl0) (fun g e => by injection e with e; omega)
  have hl1 := Nat.lt_of_lt_of_le hl0 g0.size
  obtain ⟨w2, run1, T2, g1⟩ := T1.update (P := Try.prog) huM huK (small_fits _ (by rfl)) (x := 1) (fits_near (by decide)) (small_ne _ _ (by rfl)) (.func (.func 96) #[] #[])
  have hb2 := hb1.grown g1 (Nat.le_of_lt hl1) (fun g e => by injection e with e; omega)
  have hl2 := Nat.lt_of_lt_of_le hl1 g1.size
  obtain ⟨w3, run2, T3, g2⟩ := T2.update (P := Try.prog) huM huK (small_fits _ (by rfl)) (x := 2) (fits_near (by decide)) (small_ne _ _ (by rfl)) (.func (.func 97) #[] #[])
  have hb3 := hb2.grown g2 (Nat.le_of_lt hl2) (fun g e => by injection e with e; omega)
  have hl3 := Nat.lt_of_lt_of_le hl2 g2.size
  obtain ⟨w4, run3, T4, g3⟩ := T3.update (P := Try.prog) huM huK (small_fits _ (by rfl)) (x := 3) (fits_near (by decide)) (small_ne _ _ (by rfl)) (.func (.func 98) #[] #[])
  have hb4 := hb3.grown g3 (Nat.le_of_lt hl3) (fun g e => by injection e with e; omega)
  have hl4 := Nat.lt_of_lt_of_le hl3 g3.size
  obtain ⟨w5, run4, T5, g4⟩ := T4.update (P := Try.prog) huM huK (small_fits _ (by rfl)) (x := 4) (fits_near (by decide)) (small_ne _ _ (by rfl)) (.func (.func 99) #[] #[])
  have hb5 := hb4.grown g4 (Nat.le_of_lt hl4) (fun g e => by injection e with e; omega)
  have hl5 := Nat.lt_of_lt_of_le hl4 g4.size
  obtain ⟨w6, run5, T6, g5⟩ := T5.update (P := Try.prog) huM huK (small_fits _ (by rfl)) (x := 5) (fits_near (by decide)) (small_ne _ _ (by rfl)) (.func (.func 100) #[] #[])
  have hb6 := hb5.grown g5 (Nat.le_of_lt hl5) (fun g e => by injection e with e; omega)
  have hl6 := Nat.lt_of_lt_of_le hl5 g5.size
  obtain ⟨w7, run6, T7, g6⟩ := T6.update (P := Try.prog) huM huK (small_fits _ (by rfl)) (x := 6) (fits_near (by decide)) (small_ne _ _ (by rfl)) (.func (.func 101) #[] #[])
  have hb7 := hb6.grown g6 (Nat.le_of_lt hl6) (fun g e => by injection e with e; omega)
  have hl7 := Nat.lt_of_lt_of_le hl6 g6.size
  obtain ⟨w8, run7, T8, g7⟩ := T7.update (P := Try.prog) huM huK (small_fits _ (by rfl)) (x := 7) (fits_near (by decide)) (small_ne _ _ (by rfl)) (.func (.func 102) #[] #[])
  have hb8 := hb7.grown g7 (Nat.le_of_lt hl7) (fun g e => by injection e with e; omega)
  have hl8 := Nat.lt_of_lt_of_le hl7 g7.size
  have TT := Lib.hid (show Tab w8 w.heap.size condL from T8)
  clear T0 T1 T2 T3 T4 T5 T6 T7 T8 g0 g1 g2 g3 g4 g5 g6 g7 hb0 hb1 hb2 hb3 hb4 hb5 hb6 hb7 hl0 hl1 hl2 hl3 hl4 hl5 hl6 hl7 huM huK
  go_enter Try.func63, Try.ntmps63
  go_wp2
  go_ret
  exact ⟨rfl, TT.out, hl8, hb8⟩
theorem zero_func (w : World) : (zeroValue 46).run Try.prog w = .ok .nilFunc w := by kernel_rfl
theorem cond_uniq (x : Int) (v : Value) (hf : (condL.find? (fun p => p.1 == x)) = some (x, v)) : (∀ p ∈ condL, p.1 = x → p.2 = v) := by
  intro p hp he
  simp only [condL, List.mem_cons, List.not_mem_nil, or_false] at hp
  rcases hp with rfl | rfl | rfl | rfl | rfl | rfl | rfl | rfl <;> (subst he; simp [condL] at hf; exact hf)
theorem cond_has (m : Int) (hm : 0 ≤ m ∧ m ≤ 7) : ∃ v, (m, v) ∈ condL ∧ (∀ p ∈ condL, p.1 = m → p.2 = v) := by
  obtain rfl | rfl | rfl | rfl | rfl | rfl | rfl | rfl : m = 0 ∨ m = 1 ∨ m = 2 ∨ m = 3 ∨ m = 4 ∨ m = 5 ∨ m = 6 ∨ m = 7 := by omega
  all_goals exact ⟨_, by simp [condL]; rfl, cond_uniq _ _ (by simp [condL])⟩
theorem cond_no (m : Int) (hm : ¬ (0 ≤ m ∧ m ≤ 7)) : ∀ p ∈ condL, p.1 ≠ m := by
  intro p hp
  simp only [condL, List.mem_cons, List.not_mem_nil, or_false] at hp
  rcases hp with rfl | rfl | rfl | rfl | rfl | rfl | rfl | rfl <;> (simp only; omega)
set_option maxRecDepth 20000 in
set_option maxHeartbeats 1000000 in
theorem implMaskTurns_any (m r c : Int) (w : World) (hM : -9223372036854775808 ≤ m ∧ m ≤ 9223372036854775807) :
    Calls Try.prog 16 #[.int .i64 m, .int .i64 r, .int .i64 c] w (Ret (.bool (maskB m r c)) w) := by
  by_cases hm : 0 ≤ m ∧ m ≤ 7
  · by_cases hr : 0 ≤ r ∧ r ≤ 40000
    · by_cases hc : 0 ≤ c ∧ c ≤ 40000
      · have hres := Lib.hid (show maskB m r c = turnsB m r c by unfold maskB; rw [decide_eq_true hm, decide_eq_true hr, decide_eq_true hc]; rfl)
        obtain rfl | rfl | rfl | rfl | rfl | rfl | rfl | rfl : m = 0 ∨ m = 1 ∨ m = 2 ∨ m = 3 ∨ m = 4 ∨ m = 5 ∨ m = 6 ∨ m = 7 := by omega
        · have HL := Lib.hid (fun (W : World) (hT : Tab W w.heap.size condL) => hT.yes (P := Try.prog) Try.underlying71 Try.underlying2 condL_fits (x := 0) (v := .func (.func 95) #[] #[]) (by simp [condL]) (cond_uniq _ _ (by simp [condL])) true)
          go_enter Try.func16, Try.ntmps16
          go_wp2_with fail
          refine (conditions_any _).mono ?_
          rintro e w1 ⟨rfl, hT, hl, hb⟩
          have hrun := HL.out _ hT
          clear hT
          simp only [if_true] at hrun
          go_wp2_with (first | (go_at_call 64; refine (inRange_yes _ _ _ _ (by omega)).mono ?_; rintro e w' ⟨rfl, rfl⟩) | (go_at_call 95; refine (turn0_any _ _ _ hr hc).mono ?_; rintro e w' ⟨rfl, rfl⟩))
          go_ret
          exact ⟨ret_bool hres.out.symm, hb⟩
        · have HL := Lib.hid (fun (W : World) (hT : Tab W w.heap.size condL) => hT.yes (P := Try.prog) Try.underlying71 Try.underlying2 condL_fits (x := 1) (v := .func (.func 96) #[] #[]) (by simp [condL]) (cond_uniq _ _ (by simp [condL])) true)
          go_enter Try.func16, Try.ntmps16
          go_wp2_with fail
          refine (conditions_any _).mono ?_
          rintro e w1 ⟨rfl, hT, hl, hb⟩
          have hrun := HL.out _ hT
          clear hT
          simp only [if_true] at hrun
          go_wp2_with (first | (go_at_call 64; refine (inRange_yes _ _ _ _ (by omega)).mono ?_; rintro e w' ⟨rfl, rfl⟩) | (go_at_call 96; refine (turn1_any _ _ _ hr hc).mono ?_; rintro e w' ⟨rfl, rfl⟩))
          go_ret
          exact ⟨ret_bool hres.out.symm, hb⟩
        · have HL := Lib.hid (fun (W : World) (hT : Tab W w.heap.size condL) => hT.yes (P := Try.prog) Try.underlying71 Try.underlying2 condL_fits (x := 2) (v := .func (.func 97) #[] #[]) (by simp [condL]) (cond_uniq _ _ (by simp [condL])) true)
          go_enter Try.func16, Try.ntmps16
          go_wp2_with fail
          refine (conditions_any _).mono ?_
          rintro e w1 ⟨rfl, hT, hl, hb⟩
          have hrun := HL.out _ hT
          clear hT
          simp only [if_true] at hrun
          go_wp2_with (first | (go_at_call 64; refine (inRange_yes _ _ _ _ (by omega)).mono ?_; rintro e w' ⟨rfl, rfl⟩) | (go_at_call 97; refine (turn2_any _ _ _ hr hc).mono ?_; rintro e w' ⟨rfl, rfl⟩))
          go_ret
          exact ⟨ret_bool hres.out.symm, hb⟩
        · have HL := Lib.hid (fun (W : World) (hT : Tab W w.heap.size condL) => hT.yes (P := Try.prog) Try.underlying71 Try.underlying2 condL_fits (x := 3) (v := .func (.func 98) #[] #[]) (by simp [condL]) (cond_uniq _ _ (by simp [condL])) true)
          go_enter Try.func16, Try.ntmps16
          go_wp2_with fail
          refine (conditions_any _).mono ?_
          rintro e w1 ⟨rfl, hT, hl, hb⟩
          have hrun := HL.out _ hT
          clear hT
          simp only [if_true] at hrun
          go_wp2_with (first | (go_at_call 64; refine (inRange_yes _ _ _ _ (by omega)).mono ?_; rintro e w' ⟨rfl, rfl⟩) | (go_at_call 98; refine (turn3_any _ _ _ hr hc).mono ?_; rintro e w' ⟨rfl, rfl⟩))
          go_ret
          exact ⟨ret_bool hres.out.symm, hb⟩
        · have HL := Lib.hid (fun (W : World) (hT : Tab W w.heap.size condL) => hT.yes (P := Try.prog) Try.underlying71 Try.underlying2 condL_fits (x := 4) (v := .func (.func 99) #[] #[]) (by simp [condL]) (cond_uniq _ _ (by simp [condL])) true)
          go_enter Try.func16, Try.ntmps16
          go_wp2_with fail
          refine (conditions_any _).mono ?_
          rintro e w1 ⟨rfl, hT, hl, hb⟩
          have hrun := HL.out _ hT
          clear hT
          simp only [if_true] at hrun
          go_wp2_with (first | (go_at_call 64; refine (inRange_yes _ _ _ _ (by omega)).mono ?_; rintro e w' ⟨rfl, rfl⟩) | (go_at_call 99; refine (turn4_any _ _ _ hr hc).mono ?_; rintro e w' ⟨rfl, rfl⟩))
          go_ret
          exact ⟨ret_bool hres.out.symm, hb⟩
        · have HL := Lib.hid (fun (W : World) (hT : Tab W w.heap.size condL) => hT.yes (P := Try.prog) Try.underlying71 Try.underlying2 condL_fits (x := 5) (v := .func (.func 100) #[] #[]) (by simp [condL]) (cond_uniq _ _ (by simp [condL])) true)
          go_enter Try.func16, Try.ntmps16
          go_wp2_with fail
          refine (conditions_any _).mono ?_
          rintro e w1 ⟨rfl, hT, hl, hb⟩
          have hrun := HL.out _ hT
          clear hT
          simp only [if_true] at hrun
          go_wp2_with (first | (go_at_call 64; refine (inRange_yes _ _ _ _ (by omega)).mono ?_; rintro e w' ⟨rfl, rfl⟩) | (go_at_call 100; refine (turn5_any _ _ _ hr hc).mono ?_; rintro e w' ⟨rfl, rfl⟩))
          go_ret
          exact ⟨ret_bool hres.out.symm, hb⟩
        · have HL := Lib.hid (fun (W : World) (hT : Tab W w.heap.size condL) => hT.yes (P := Try.prog) Try.underlying71 Try.underlying2 condL_fits (x := 6) (v := .func (.func 101) #[] #[]) (by simp [condL]) (cond_uniq _ _ (by simp [condL])) true)
          go_enter Try.func16, Try.ntmps16
          go_wp2_with fail
          refine (conditions_any _).mono ?_
          rintro e w1 ⟨rfl, hT, hl, hb⟩
          have hrun := HL.out _ hT
          clear hT
          simp only [if_true] at hrun
          go_wp2_with (first | (go_at_call 64; refine (inRange_yes _ _ _ _ (by omega)).mono ?_; rintro e w' ⟨rfl, rfl⟩) | (go_at_call 101; refine (turn6_any _ _ _ hr hc).mono ?_; rintro e w' ⟨rfl, rfl⟩))
          go_ret
          exact ⟨ret_bool hres.out.symm, hb⟩
        · have HL := Lib.hid (fun (W : World) (hT : Tab W w.heap.size condL) => hT.yes (P := Try.prog) Try.underlying71 Try.underlying2 condL_fits (x := 7) (v := .func (.func 102) #[] #[]) (by simp [condL]) (cond_uniq _ _ (by simp [condL])) true)
          go_enter Try.func16, Try.ntmps16
          go_wp2_with fail
          refine (conditions_any _).mono ?_
          rintro e w1 ⟨rfl, hT, hl, hb⟩
          have hrun := HL.out _ hT
          clear hT
          simp only [if_true] at hrun
          go_wp2_with (first | (go_at_call 64; refine (inRange_yes _ _ _ _ (by omega)).mono ?_; rintro e w' ⟨rfl, rfl⟩) | (go_at_call 102; refine (turn7_any _ _ _ hr hc).mono ?_; rintro e w' ⟨rfl, rfl⟩))
          go_ret
          exact ⟨ret_bool hres.out.symm, hb⟩
      · skip
        have hres := Lib.hid (show maskB m r c = false by unfold maskB; rw [decide_eq_true hm, decide_eq_true hr, decide_eq_false hc]; rfl)
        obtain ⟨v, h1, h2⟩ := cond_has m hm
        have HL := Lib.hid (fun (W : World) (hT : Tab W w.heap.size condL) => hT.yes (P := Try.prog) Try.underlying71 Try.underlying2 condL_fits h1 h2 true)
        clear h1 h2
        go_enter Try.func16, Try.ntmps16
        go_wp2_with fail
        refine (conditions_any _).mono ?_
        rintro e w1 ⟨rfl, hT, hl, hb⟩
        have hrun := HL.out _ hT
        clear hT
        simp only [if_true] at hrun
        go_wp2_with (first | (go_at_call 64; refine (inRange_yes _ _ _ _ (by omega)).mono ?_; rintro e w' ⟨rfl, rfl⟩) | (go_at_call 64; refine (inRange_no _ _ _ _ (by omega)).mono ?_; rintro e w' ⟨rfl, rfl⟩))
        go_ret
        exact ⟨ret_bool hres.out.symm, hb⟩
    · skip
      have hres := Lib.hid (show maskB m r c = false by unfold maskB; rw [decide_eq_true hm, decide_eq_false hr]; rfl)
      obtain ⟨v, h1, h2⟩ := cond_has m hm
      have HL := Lib.hid (fun (W : World) (hT : Tab W w.heap.size condL) => hT.yes (P := Try.prog) Try.underlying71 Try.underlying2 condL_fits h1 h2 true)
      clear h1 h2
      go_enter Try.func16, Try.ntmps16
      go_wp2_with fail
      refine (conditions_any _).mono ?_
      rintro e w1 ⟨rfl, hT, hl, hb⟩
      have hrun := HL.out _ hT
      clear hT
      simp only [if_true] at hrun
      go_wp2_with ((go_at_call 64; refine (inRange_no _ _ _ _ (by omega)).mono ?_; rintro e w' ⟨rfl, rfl⟩))
      go_ret
      exact ⟨ret_bool hres.out.symm, hb⟩
  · have hres := Lib.hid (show maskB m r c = false by unfold maskB; rw [decide_eq_false hm]; rfl)
    have HL := Lib.hid (fun (W : World) (hT : Tab W w.heap.size condL) => hT.no (P := Try.prog) Try.underlying71 Try.underlying2 condL_fits (x := m) hM (cond_no m hm) (zero_func W) true)
    go_enter Try.func16, Try.ntmps16
    go_wp2_with fail
    refine (conditions_any _).mono ?_
    rintro e w1 ⟨rfl, hT, hl, hb⟩
    have hrun := HL.out _ hT
    clear hT
    simp only [if_true] at hrun
    go_wp2_with fail
    go_ret
    exact ⟨ret_bool hres.out.symm, hb⟩
end Go.Proofs.Ytagdkaigdehohaa
