/-
  Contracts: the runs of a line, distances, known cells, dark cells.
  Conditions: none.
-/
import Derived.Test.YtckmenjbblgiiaaPenP
import Derived.Test.YtckmenjbblgiiaaGridD
set_option linter.unusedVariables false
namespace Go.Proofs.Ytckmenjbblgiiaa
open Go.RowKit Go.G8
theorem runS_go {g : Nat → Int} {k : Nat} (h : 0 < k ∧ g k = g (k - 1)) : runS g (k + 1) = ((runS g k).1 + runD ((runS g k).2 + 1), (runS g k).2 + 1) := by
  show ((runS g k).1 + runD (if 0 < k ∧ g k = g (k - 1) then (runS g k).2 + 1 else 1), if 0 < k ∧ g k = g (k - 1) then (runS g k).2 + 1 else 1) = _
  rw [if_pos h]
theorem runS_no {g : Nat → Int} {k : Nat} (h : ¬ (0 < k ∧ g k = g (k - 1))) : runS g (k + 1) = ((runS g k).1, 1) := by
  show ((runS g k).1 + runD (if 0 < k ∧ g k = g (k - 1) then (runS g k).2 + 1 else 1), if 0 < k ∧ g k = g (k - 1) then (runS g k).2 + 1 else 1) = _
  rw [if_neg h]
  rfl
set_option maxHeartbeats 1000000 in
theorem l16Runs_any (a : Option Addr) (n c : Nat) (L : List Int) (w : World) (h : Rd .i64 w a n L) (hn : n ≤ 1000000000) :
    Calls Try.prog 103 #[.slice a n c] w (Ret (.int .i64 ((runS (cellN L) n).1 : Nat)) w) := by
  go_enter Try.func103, Try.ntmps103
  go_wp2
  go_loopw [3, 4, 5] (fun o r i wr => ∃ k j : Nat, k ≤ n ∧ i = .int .i64 (k : Int) ∧ o = .int .i64 ((runS (cellN L) k).1 : Nat) ∧ r = .int .i64 ((runS (cellN L) k).2 : Nat) ∧ wr = w.drewN j) (fun _ _ i _ => n - (intOf i).toNat)
  case atStart => exact ⟨0, 0, Nat.zero_le _, rfl, rfl, rfl, rfl⟩
  case round =>
    obtain ⟨k, j, hk, rfl, rfl, rfl, rfl⟩ := hrel
    obtain ⟨hbd1, hbd2⟩ := runS_bd (cellN L) k
    have hgo := Lib.hid (fun h => runS_go (g := cellN L) (k := k) h)
    have hno := Lib.hid (fun h => runS_no (g := cellN L) (k := k) h)
    obtain ⟨O, hO⟩ : ∃ O, (runS (cellN L) k).1 = O := ⟨_, rfl⟩
    obtain ⟨R, hR⟩ : ∃ R, (runS (cellN L) k).2 = R := ⟨_, rfl⟩
    rw [hO, hR] at hgo
    rw [hO] at hno hbd1 ⊢
    rw [hR] at hbd2 ⊢
    have HO := Lib.hid hO
    clear hO hR
    by_cases hlt : k < n
    · obtain ⟨b1, o1, x, rfl, -, hc1, hx, hx1, hx2⟩ := h.at_ hlt
      by_cases hk0 : 0 < k
      · obtain ⟨b2, o2, y, he, -, hc2, hy, hy1, hy2⟩ := h.at_ (k := k - 1) (by omega)
        injection he with he; injection he with he1 he2; subst he1 he2
        have hl1 : (0 : Int) ≤ (k : Int) := by omega
        have hl2 : (k : Int) < (n : Int) := by omega
        by_cases hxy : x = y
        · subst hxy
          have hxx : (x == x) = true := by simp
          replace hgo := Lib.hid (hgo.out ⟨hk0, by rw [cellN_of hx.out, cellN_of hy.out]⟩)
          clear hno
          have E2 := Lib.hid (show (runS (cellN L) (k + 1)).2 = R + 1 by rw [hgo.out])
          by_cases h5 : R = 4
          · have E1 := Lib.hid (show (runS (cellN L) (k + 1)).1 = O + 3 by rw [hgo.out, h5]; rfl)
            subst h5
            clear hgo
            go_wp2
            go_quiet (fail)
            go_wp2
            go_roundw
            case rel => exact ⟨k + 1, _, by omega, by go_num, (by first | (rw [E1.out]; done) | (rw [E1.out]; go_num)), (by first | (rw [E2.out]; done) | (rw [E2.out]; go_num)), rfl⟩
            case measure => simp [intOf]; omega
          · by_cases h6 : 5 ≤ R
            · have E1 := Lib.hid (show (runS (cellN L) (k + 1)).1 = O + 1 by rw [hgo.out]; show O + runD (R + 1) = _; unfold runD; rw [if_neg (by omega), if_pos (by omega)])
              clear hgo
              go_wp2
              go_quiet (fail)
              go_wp2
              go_roundw
              case rel => exact ⟨k + 1, _, by omega, by go_num, (by first | (rw [E1.out]; done) | (rw [E1.out]; go_num)), (by first | (rw [E2.out]; done) | (rw [E2.out]; go_num)), rfl⟩
              case measure => simp [intOf]; omega
            · have E1 := Lib.hid (show (runS (cellN L) (k + 1)).1 = O by rw [hgo.out]; show O + runD (R + 1) = _; unfold runD; rw [if_neg (by omega), if_neg (by omega)]; rfl)
              clear hgo
              go_wp2
              go_quiet (fail)
              go_wp2
              go_roundw
              case rel => exact ⟨k + 1, _, by omega, by go_num, (by first | (rw [E1.out]; done) | (rw [E1.out]; go_num)), (by first | (rw [E2.out]; done) | (rw [E2.out]; go_num)), rfl⟩
              case measure => simp [intOf]; omega
        · have hxx : (x == y) = false := by simp [hxy]
          replace hno := hno.out (fun hh => hxy (by have := hh.2; rwa [cellN_of hx.out, cellN_of hy.out] at this))
          have E1 := Lib.hid (show (runS (cellN L) (k + 1)).1 = O by rw [hno])
          have E2 := Lib.hid (show (runS (cellN L) (k + 1)).2 = 1 by rw [hno])
          clear hgo hno hxy
          go_wp2
          go_quiet (fail)
          go_wp2
          go_roundw
          case rel => exact ⟨k + 1, _, by omega, by go_num, (by first | (rw [E1.out]; done) | (rw [E1.out]; go_num)), (by first | (rw [E2.out]; done) | (rw [E2.out]; go_num)), rfl⟩
          case measure => simp [intOf]; omega
      · replace hno := hno.out (fun hh => hk0 hh.1)
        have E1 := Lib.hid (show (runS (cellN L) (k + 1)).1 = O by rw [hno])
        have E2 := Lib.hid (show (runS (cellN L) (k + 1)).2 = 1 by rw [hno])
        clear hgo hno
        go_wp2
        go_quiet (fail)
        go_wp2
        go_roundw
        case rel => exact ⟨k + 1, _, by omega, by go_num, (by first | (rw [E1.out]; done) | (rw [E1.out]; go_num)), (by first | (rw [E2.out]; done) | (rw [E2.out]; go_num)), rfl⟩
        case measure => simp [intOf]; omega
    · obtain rfl : k = n := by omega
      go_wp2
      go_ret
      exact ⟨by rw [HO.out]; rfl, below_drewN (Below.refl _ _) _⟩
theorem distance_any (n : Int) (w : World) (hn : -1000000000 ≤ n ∧ n ≤ 1000000000) : Calls Try.prog 99 #[.int .i64 n] w (RetS (.int .i64 (max n (-n))) w) := by
  by_cases h : 0 ≤ n
  · have e : max n (-n) = n := by omega
    rw [e]
    clear e
    go_enter Try.func99, Try.ntmps99
    go_wp2
    go_ret
    exact ⟨rfl, rfl⟩
  · have e : max n (-n) = -n := by omega
    rw [e]
    clear e
    go_enter Try.func99, Try.ntmps99
    go_wp2
    go_ret
    exact ⟨rfl, rfl⟩
theorem l01Abs_any (n : Int) (w : World) (hn : -1000000000 ≤ n ∧ n ≤ 1000000000) : Calls Try.prog 104 #[.int .i64 n] w (RetS (.int .i64 (max n (-n))) w) := by
  by_cases h : 0 ≤ n
  · have e : max n (-n) = n := by omega
    rw [e]
    clear e
    go_enter Try.func104, Try.ntmps104
    go_wp2
    go_ret
    exact ⟨rfl, rfl⟩
  · have e : max n (-n) = -n := by omega
    rw [e]
    clear e
    go_enter Try.func104, Try.ntmps104
    go_wp2
    go_ret
    exact ⟨rfl, rfl⟩
/-- Whether a list holds -1, where each cell is -1, 0 or 1. -/
theorem l05Has_any (a : Option Addr) (n c : Nat) (xs : List Int) (w : World) (h : Rd .i64 w a n xs) (hn : n ≤ 1000000000) (hc : cellsB xs = true) :
    Calls Try.prog 102 #[.slice a n c, .int .i64 (-1)] w (Ret (.bool (!knownB xs)) w) := by
  have HL := Lib.hid h.len
  have HC := Lib.hid hc
  go_enter Try.func102, Try.ntmps102
  go_wp2
  go_loop [5] (fun i => ∃ j : Nat, j ≤ n ∧ i = .int .i64 j ∧ Hid (knownB (xs.take j) = true)) (fun i => n - (intOf i).toNat)
  case atStart => exact ⟨0, Nat.zero_le _, rfl, rfl⟩
  case round =>
    obtain ⟨j, hj, rfl, hall⟩ := hrel
    by_cases hlt : j < n
    · obtain ⟨b, o, x, rfl, -, hc1, hx, hx1, hx2⟩ := h.at_ hlt
      by_cases hm : x = -1
      · subst hm
        have hr := Lib.hid (show knownB xs = false from (known_bad hx.out (by omega)))
        go_wp2
        go_ret
        exact ⟨ret_bool (by rw [hr.out]; rfl), Below.refl _ _⟩
      · have hxx : (x == -1) = false := by simp [hm]
        have hall2 := Lib.hid (show knownB (xs.take (j + 1)) = true from known_take hx.out hall.out (by have := cells_of HC.out (List.mem_of_getElem? hx.out); omega))
        go_wp2
        go_round
        case rel => exact ⟨j + 1, by omega, by go_num, hall2⟩
        case measure => simp [intOf]; omega
    · obtain rfl : j = n := by omega
      have hr := Lib.hid (show knownB xs = true by have := hall.out; rwa [List.take_of_length_le (by rw [HL.out]; exact Nat.le_refl _)] at this)
      go_wp2
      go_ret
      exact ⟨ret_bool (by rw [hr.out]; rfl), Below.refl _ _⟩
theorem known_any (r c : Int) (a : Option Addr) (n k : Nat) (xs : List Int) (w : World) (h : Rd .i64 w a n xs) (hn : n ≤ 1000000000) :
    Calls Try.prog 70 #[.agg #[.int .i64 r, .int .i64 c, .slice a n k]] w (Ret (.bool (knownB xs)) w) := by
  have HL := Lib.hid h.len
  obtain ⟨hw0, hlt0, c0, c1, c2⟩ := grid_start w (.int .i64 r) (.int .i64 c) (.slice a n k) 41
  have hR := h.to hw0
  go_enter Try.func70, Try.ntmps70
  go_wp2
  clear hlt0 c0 c1 c2
  generalize (w.alloc (.cells #[.int .i64 r, .int .i64 c, .slice a n k] 41)) = W at *
  go_loop [8] (fun i => ∃ j : Nat, j ≤ n ∧ i = .int .i64 j ∧ Hid (knownB (xs.take j) = true)) (fun i => n - (intOf i).toNat)
  case atStart => exact ⟨0, Nat.zero_le _, rfl, rfl⟩
  case round =>
    obtain ⟨j, hj, rfl, hall⟩ := hrel
    by_cases hlt : j < n
    · obtain ⟨b, o, x, rfl, -, hc1, hx, hx1, hx2⟩ := hR.at_ hlt
      by_cases hm : x < 0
      · have hr := Lib.hid (show knownB xs = false from (known_bad hx.out hm))
        go_wp2
        go_ret
        exact ⟨ret_bool hr.out.symm, hw0⟩
      · have hall2 := Lib.hid (show knownB (xs.take (j + 1)) = true from known_take hx.out hall.out (by omega))
        go_wp2
        go_round
        case rel => exact ⟨j + 1, by omega, by go_num, hall2⟩
        case measure => simp [intOf]; omega
    · obtain rfl : j = n := by omega
      have hr := Lib.hid (show knownB xs = true by have := hall.out; rwa [List.take_of_length_le (by rw [HL.out]; exact Nat.le_refl _)] at this)
      go_wp2
      go_ret
      exact ⟨ret_bool hr.out.symm, hw0⟩
theorem darkCount_any (r c : Int) (a : Option Addr) (n k : Nat) (xs : List Int) (w : World) (h : Rd .i64 w a n xs) (hn : n ≤ 1000000000) (hz : Hid (zo xs)) :
    Calls Try.prog 100 #[.agg #[.int .i64 r, .int .i64 c, .slice a n k]] w (Ret (.int .i64 (darkI xs)) w) := by
  have HL := Lib.hid h.len
  obtain ⟨hw0, hlt0, c0, c1, c2⟩ := grid_start w (.int .i64 r) (.int .i64 c) (.slice a n k) 41
  have hR := h.to hw0
  go_enter Try.func100, Try.ntmps100
  go_wp2
  clear hlt0 c0 c1 c2
  generalize (w.alloc (.cells #[.int .i64 r, .int .i64 c, .slice a n k] 41)) = W at *
  go_loop [3, 9] (fun s i => ∃ j : Nat, j ≤ n ∧ i = .int .i64 j ∧ s = .int .i64 (xs.take j).sum) (fun _ i => n - (intOf i).toNat)
  case atStart => exact ⟨0, Nat.zero_le _, rfl, rfl⟩
  case round =>
    obtain ⟨j, hj, rfl, rfl⟩ := hrel
    obtain ⟨hb1, hb2⟩ := dark_bd hz.out j
    by_cases hlt : j < n
    · obtain ⟨b, o, x, rfl, -, hc1, hx, hx1, hx2⟩ := hR.at_ hlt
      have hst := Lib.hid (dark_step hx.out)
      have hx01 := hz.out x (List.mem_of_getElem? hx.out)
      generalize (xs.take j).sum = S at *
      rcases hx01 with rfl | rfl
      · go_wp2
        go_round
        case rel => exact ⟨j + 1, by omega, by go_num, by rw [hst.out]; simp⟩
        case measure => simp [intOf]; omega
      · go_wp2
        go_round
        case rel => exact ⟨j + 1, by omega, by go_num, by rw [hst.out]⟩
        case measure => simp [intOf]; omega
    · obtain rfl : j = n := by omega
      have e : (xs.take j).sum = darkI xs := by rw [List.take_of_length_le (by rw [HL.out]; exact Nat.le_refl _)]; rfl
      rw [e]
      go_wp2
      go_ret
      exact ⟨rfl, hw0⟩
end Go.Proofs.Ytckmenjbblgiiaa
