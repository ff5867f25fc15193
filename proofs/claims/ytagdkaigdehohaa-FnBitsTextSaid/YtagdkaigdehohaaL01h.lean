/-
  Contracts of chapters 1 and 4 of the program and of the reference: distances, exclusive or.
  Conditions: named at each contract; they are bounds on lengths.
-/
import Derived.Test.YtagdkaigdehohaaL01a
set_option linter.unusedVariables false
namespace Go.G8
open Go.RowKit
def pairCode (xs ys : List Int) : Int := if isBits xs = false ∨ isBits ys = false then 1 else if ¬ xs.length = ys.length then 5 else 0
/-- The number of indices at which two lists differ. -/
def dist : List Int → List Int → Int
  | x :: xs, y :: ys => (if x = y then 0 else 1) + dist xs ys
  | _, _ => 0
def xorL : List Int → List Int → List Int
  | x :: xs, y :: ys => (if x = y then 0 else 1) :: xorL xs ys
  | _, _ => []
theorem dist_bd (xs ys : List Int) : 0 ≤ dist xs ys ∧ dist xs ys ≤ xs.length := by
  induction xs generalizing ys with
  | nil => simp [dist]
  | cons x xs ih =>
    cases ys with
    | nil => simp [dist]; omega
    | cons y ys => have := ih ys; simp only [dist, List.length_cons]; split <;> omega
theorem dist_snoc {xs ys : List Int} {k : Nat} {x y : Int} (hx : xs[k]? = some x) (hy : ys[k]? = some y) : dist (xs.take (k + 1)) (ys.take (k + 1)) = dist (xs.take k) (ys.take k) + if x = y then 0 else 1 := by
  induction xs generalizing ys k with
  | nil => simp at hx
  | cons a xs ih =>
    cases ys with
    | nil => simp at hy
    | cons b ys =>
      rcases k with _ | k
      · simp at hx hy; subst hx hy; simp [dist]
      · simp at hx hy
        have := ih hx hy
        simp only [List.take_succ_cons, dist] at *
        omega
theorem xorL_length {xs ys : List Int} (h : xs.length = ys.length) : (xorL xs ys).length = xs.length := by
  induction xs generalizing ys with
  | nil => simp [xorL]
  | cons x xs ih => cases ys with
    | nil => simp at h
    | cons y ys => simp at h; simp [xorL, ih h]
theorem xorL_get {xs ys : List Int} {k : Nat} {x y : Int} (hx : xs[k]? = some x) (hy : ys[k]? = some y) : (xorL xs ys)[k]? = some (if x = y then 0 else 1) := by
  induction xs generalizing ys k with
  | nil => simp at hx
  | cons a xs ih => cases ys with
    | nil => simp at hy
    | cons b ys => rcases k with _ | k
                   · simp at hx hy; subst hx hy; simp [xorL]
                   · simp at hx hy; simpa [xorL] using ih hx hy
theorem xorL_bit (xs ys : List Int) : ∀ x ∈ xorL xs ys, x = 0 ∨ x = 1 := by
  induction xs generalizing ys with
  | nil => simp [xorL]
  | cons a xs ih => cases ys with
    | nil => simp [xorL]
    | cons b ys =>
      intro x hx
      rcases List.mem_cons.1 hx with rfl | hx
      · split <;> simp
      · exact ih ys x hx
def rBitDistance (xs ys : List Int) : Int × Int := if pairCode xs ys = 0 then (dist xs ys, 0) else (0, pairCode xs ys)
def rXorBits (xs ys : List Int) : List Int × Int := if pairCode xs ys = 0 then (xorL xs ys, 0) else ([], pairCode xs ys)
def rWordDistance (xs ys : List Int) : Int × Int := if 255 < xs.length ∨ 255 < ys.length then (0, 3) else if ¬ xs.length = ys.length then (0, 5) else (dist xs ys, 0)
theorem pairCode_0 {xs ys : List Int} (h : pairCode xs ys = 0) : isBits xs = true ∧ isBits ys = true ∧ xs.length = ys.length := by
  unfold pairCode at h
  split at h
  · omega
  · split at h
    · omega
    · rename_i h1 h2
      simp at h1 h2
      exact ⟨h1.1, h1.2, h2⟩
theorem rXorBits_ok (xs ys : List Int) : (rXorBits xs ys).1.length ≤ 1000000 ∧ ∀ x ∈ (rXorBits xs ys).1, fits .i64 x := by
  unfold rXorBits
  split
  · rename_i h
    obtain ⟨h1, h2, h3⟩ := pairCode_0 h
    have := ((isBits_iff xs).1 h1).1
    refine ⟨by rw [xorL_length h3]; omega, fun x hx => ?_⟩
    have := xorL_bit xs ys x hx
    show -9223372036854775808 ≤ x ∧ x ≤ 9223372036854775807
    omega
  · simp
end Go.G8
namespace Go.Proofs.Ytagdkaigdehohaa
open Go.RowKit Go.G8

theorem l01Two_any (a b : Option Addr) (n m c d : Nat) (xs ys : List Int) (w : World) (ha : Rd .i64 w a n xs) (hb : Rd .i64 w b m ys) (hn : n ≤ 1000000000) (hm : m ≤ 1000000000) :
    Calls Try.prog 90 #[.slice a n c, .slice b m d] w (RetS (.int .i64 (pairCode xs ys)) w) := by
  have HA := Lib.hid ha.len
  have HB := Lib.hid hb.len
  cases h1 : isBits xs with
  | false =>
    have hr := Lib.hid (show pairCode xs ys = 1 by unfold pairCode; rw [if_pos (.inl h1)])
    go_enter Try.func90, Try.ntmps90
    go_wp2_with fail
    refine (specIsBits_any _ _ _ _ _ ha hn).mono ?_
    rintro e w' ⟨rfl, rfl⟩
    go_wp2_with fail
    go_ret
    exact ⟨ret_int hr.out.symm, rfl⟩
  | true =>
    cases h2 : isBits ys with
    | false =>
      have hr := Lib.hid (show pairCode xs ys = 1 by unfold pairCode; rw [if_pos (.inr h2)])
      go_enter Try.func90, Try.ntmps90
      go_wp2_with fail
      refine (specIsBits_any _ _ _ _ _ ha hn).mono ?_
      rintro e w' ⟨rfl, rfl⟩
      go_wp2_with fail
      refine (specIsBits_any _ _ _ _ _ hb hm).mono ?_
      rintro e w' ⟨rfl, rfl⟩
      go_wp2_with fail
      go_ret
      exact ⟨ret_int hr.out.symm, rfl⟩
    | true =>
      by_cases hl : n = m
      · subst hl
        have hr := Lib.hid (show pairCode xs ys = 0 by unfold pairCode; rw [if_neg (by simp [h1, h2]), if_neg (by rw [HA.out, HB.out]; simp)])
        have hne : ((n : Int) != (n : Int)) = false := by simp
        go_enter Try.func90, Try.ntmps90
        go_wp2_with fail
        refine (specIsBits_any _ _ _ _ _ ha hn).mono ?_
        rintro e w' ⟨rfl, rfl⟩
        go_wp2_with fail
        refine (specIsBits_any _ _ _ _ _ hb hm).mono ?_
        rintro e w' ⟨rfl, rfl⟩
        go_wp2_with fail
        go_ret
        exact ⟨ret_int hr.out.symm, rfl⟩
      · have hr := Lib.hid (show pairCode xs ys = 5 by unfold pairCode; rw [if_neg (by simp [h1, h2]), if_pos (by rw [HA.out, HB.out]; exact hl)])
        have hne : ((n : Int) != (m : Int)) = true := by rw [bne_iff_ne]; omega
        go_enter Try.func90, Try.ntmps90
        go_wp2_with fail
        refine (specIsBits_any _ _ _ _ _ ha hn).mono ?_
        rintro e w' ⟨rfl, rfl⟩
        go_wp2_with fail
        refine (specIsBits_any _ _ _ _ _ hb hm).mono ?_
        rintro e w' ⟨rfl, rfl⟩
        go_wp2_with fail
        go_ret
        exact ⟨ret_int hr.out.symm, rfl⟩
theorem pairOfBits_any (a b : Option Addr) (n m c d : Nat) (xs ys : List Int) (w : World) (ha : Rd .i64 w a n xs) (hb : Rd .i64 w b m ys) (hn : n ≤ 1000000000) (hm : m ≤ 1000000000) :
    Calls Try.prog 89 #[.slice a n c, .slice b m d] w (RetS (.int .i64 (pairCode xs ys)) w) := by
  have HA := Lib.hid ha.len
  have HB := Lib.hid hb.len
  cases h1 : isBits xs with
  | false =>
    have hr := Lib.hid (show pairCode xs ys = 1 by unfold pairCode; rw [if_pos (.inl h1)])
    go_enter Try.func89, Try.ntmps89
    go_wp2_with fail
    refine (implIsBits_any _ _ _ _ _ ha hn).mono ?_
    rintro e w' ⟨rfl, rfl⟩
    go_wp2_with fail
    go_ret
    exact ⟨ret_int hr.out.symm, rfl⟩
  | true =>
    cases h2 : isBits ys with
    | false =>
      have hr := Lib.hid (show pairCode xs ys = 1 by unfold pairCode; rw [if_pos (.inr h2)])
      go_enter Try.func89, Try.ntmps89
      go_wp2_with fail
      refine (implIsBits_any _ _ _ _ _ ha hn).mono ?_
      rintro e w' ⟨rfl, rfl⟩
      go_wp2_with fail
      refine (implIsBits_any _ _ _ _ _ hb hm).mono ?_
      rintro e w' ⟨rfl, rfl⟩
      go_wp2_with fail
      go_ret
      exact ⟨ret_int hr.out.symm, rfl⟩
    | true =>
      by_cases hl : n = m
      · subst hl
        have hr := Lib.hid (show pairCode xs ys = 0 by unfold pairCode; rw [if_neg (by simp [h1, h2]), if_neg (by rw [HA.out, HB.out]; simp)])
        have hne : ((n : Int) != (n : Int)) = false := by simp
        go_enter Try.func89, Try.ntmps89
        go_wp2_with fail
        refine (implIsBits_any _ _ _ _ _ ha hn).mono ?_
        rintro e w' ⟨rfl, rfl⟩
        go_wp2_with fail
        refine (implIsBits_any _ _ _ _ _ hb hm).mono ?_
        rintro e w' ⟨rfl, rfl⟩
        go_wp2_with fail
        go_ret
        exact ⟨ret_int hr.out.symm, rfl⟩
      · have hr := Lib.hid (show pairCode xs ys = 5 by unfold pairCode; rw [if_neg (by simp [h1, h2]), if_pos (by rw [HA.out, HB.out]; exact hl)])
        have hne : ((n : Int) != (m : Int)) = true := by rw [bne_iff_ne]; omega
        go_enter Try.func89, Try.ntmps89
        go_wp2_with fail
        refine (implIsBits_any _ _ _ _ _ ha hn).mono ?_
        rintro e w' ⟨rfl, rfl⟩
        go_wp2_with fail
        refine (implIsBits_any _ _ _ _ _ hb hm).mono ?_
        rintro e w' ⟨rfl, rfl⟩
        go_wp2_with fail
        go_ret
        exact ⟨ret_int hr.out.symm, rfl⟩
theorem l01Differ_any (a b : Option Addr) (n c d : Nat) (xs ys : List Int) (w : World) (ha : Rd .i64 w a n xs) (hb : Rd .i64 w b n ys) (hn : n ≤ 1000000000) :
    Calls Try.prog 91 #[.slice a n c, .slice b n d] w (RetQ (.int .i64 (dist xs ys)) w) := by
  have HA := Lib.hid ha.len
  have HB := Lib.hid hb.len
  go_enter Try.func91, Try.ntmps91
  go_wp2
  go_loopw [5, 6] (fun v i wr => ∃ k j : Nat, k ≤ n ∧ i = .int .i64 k ∧ v = .int .i64 (dist (xs.take k) (ys.take k)) ∧ wr = w.drewN j) (fun _ i _ => n - (intOf i).toNat)
  case atStart => exact ⟨0, 0, Nat.zero_le _, rfl, rfl, rfl⟩
  case round =>
    obtain ⟨k, j, hk, rfl, rfl, rfl⟩ := hrel
    obtain ⟨hd1, hd2⟩ := dist_bd (xs.take k) (ys.take k)
    have hlk := List.length_take_le k xs
    by_cases hlt : k < n
    · obtain ⟨b1, o1, x, rfl, -, hc1, hx, -, -⟩ := ha.at_ hlt
      obtain ⟨b2, o2, y, rfl, -, hc2, hy, -, -⟩ := hb.at_ hlt
      have hl1 : (0 : Int) ≤ (k : Int) := by omega
      have hl2 : (k : Int) < (n : Int) := by omega
      have hS := Lib.hid (dist_snoc hx.out hy.out)
      by_cases hxy : x = y
      · subst hxy
        have hxx : (x != x) = false := by simp
        rw [if_pos rfl, Int.add_zero] at hS
        go_wp2
        go_quiet (fail)
        go_wp2
        go_roundw
        case rel => exact ⟨k + 1, _, by omega, by go_num, by rw [hS.out], rfl⟩
        case measure => simp [intOf]; omega
      · have hxx : (x != y) = true := by rw [bne_iff_ne]; exact hxy
        rw [if_neg hxy] at hS
        clear hxy
        go_wp2
        go_quiet (fail)
        go_wp2
        go_roundw
        case rel => exact ⟨k + 1, _, by omega, by go_num, by rw [hS.out], rfl⟩
        case measure => simp [intOf]; omega
    · obtain rfl : k = n := by omega
      rw [List.take_of_length_le (by rw [HA.out]; exact Nat.le_refl _), List.take_of_length_le (by rw [HB.out]; exact Nat.le_refl _)]
      go_wp2
      go_ret
      exact ⟨rfl, j, rfl⟩
theorem specBitDistance_any (a : Option Addr) (n c : Nat) (xs : List Int) (b : Option Addr) (m d : Nat) (ys : List Int) (w : World) (ha : Rd .i64 w a n xs) (hn : n ≤ 1000000000) (hb : Rd .i64 w b m ys) (hm : m ≤ 1000000000) :
    Calls Try.prog 50 #[.slice a n c, .slice b m d] w (Ret (.tuple #[.int .i64 (rBitDistance xs ys).1, .int .i64 (rBitDistance xs ys).2]) w) := by
  by_cases hp : pairCode xs ys = 0
  · have hr := Lib.hid (show rBitDistance xs ys = (dist xs ys, 0) by unfold rBitDistance; rw [if_pos hp])
    obtain ⟨h1, h2, h3⟩ := pairCode_0 hp
    obtain rfl : n = m := by rw [← ha.len, ← hb.len]; exact h3
    clear h1 h2 h3
    go_enter Try.func50, Try.ntmps50
    go_wp2_with fail
    refine (l01Two_any _ _ _ _ _ _ xs ys _ ha hb hn hm).mono ?_
    rintro e w' ⟨rfl, rfl⟩
    rw [hp]
    clear hp
    go_wp2_with fail
    refine (l01Differ_any _ _ _ _ _ xs ys _ ha hb hn).mono ?_
    rintro e w' ⟨rfl, hq⟩
    go_wp2_with fail
    go_ret2
    exact ⟨ret2_int hr.out, below_q hq⟩
  · have hr := Lib.hid (show rBitDistance xs ys = (0, pairCode xs ys) by unfold rBitDistance; rw [if_neg hp])
    have hne : (pairCode xs ys != 0) = true := by rw [bne_iff_ne]; exact hp
    clear hp
    go_enter Try.func50, Try.ntmps50
    go_wp2_with fail
    refine (l01Two_any _ _ _ _ _ _ xs ys _ ha hb hn hm).mono ?_
    rintro e w' ⟨rfl, rfl⟩
    go_wp2_with fail
    go_ret2
    exact ⟨ret2_int hr.out, Below.refl _ _⟩
theorem implBitDistance_any (a : Option Addr) (n c : Nat) (xs : List Int) (b : Option Addr) (m d : Nat) (ys : List Int) (w : World) (ha : Rd .i64 w a n xs) (hn : n ≤ 1000000000) (hb : Rd .i64 w b m ys) (hm : m ≤ 1000000000) :
    Calls Try.prog 49 #[.slice a n c, .slice b m d] w (Ret (.tuple #[.int .i64 (rBitDistance xs ys).1, .int .i64 (rBitDistance xs ys).2]) w) := by
  by_cases hp : pairCode xs ys = 0
  · have hr := Lib.hid (show rBitDistance xs ys = (dist xs ys, 0) by unfold rBitDistance; rw [if_pos hp])
    obtain ⟨h1, h2, h3⟩ := pairCode_0 hp
    have hb1 := Lib.hid ((isBits_iff xs).1 h1).2
    have hb2 := Lib.hid ((isBits_iff ys).1 h2).2
    obtain rfl : n = m := by rw [← ha.len, ← hb.len]; exact h3
    clear h1 h2 h3
    have HA := Lib.hid ha.len
    have HB := Lib.hid hb.len
    go_enter Try.func49, Try.ntmps49
    go_wp2_with fail
    refine (pairOfBits_any _ _ _ _ _ _ xs ys _ ha hb hn hm).mono ?_
    rintro e w' ⟨rfl, rfl⟩
    rw [hp]
    clear hp
    go_wp2_with fail
    go_loop [7, 18] (fun v i => ∃ k : Nat, k ≤ n ∧ i = .int .i64 k ∧ v = .int .i64 (dist (xs.take k) (ys.take k))) (fun _ i => n - (intOf i).toNat)
    case atStart => exact ⟨0, Nat.zero_le _, rfl, rfl⟩
    case round =>
      obtain ⟨k, hk, rfl, rfl⟩ := hrel
      obtain ⟨hd1, hd2⟩ := dist_bd (xs.take k) (ys.take k)
      have hlk := List.length_take_le k xs
      by_cases hlt : k < n
      · obtain ⟨b1, o1, x, rfl, -, hc1, hx, -, -⟩ := ha.at_ hlt
        obtain ⟨b2, o2, y, rfl, -, hc2, hy, -, -⟩ := hb.at_ hlt
        have hS := Lib.hid (dist_snoc hx.out hy.out)
        have hxor := i64_xor_bit x y (hb1.out x (List.mem_of_getElem? hx.out)) (hb2.out y (List.mem_of_getElem? hy.out))
        by_cases hxy : x = y
        · rw [if_pos hxy] at hS hxor
          clear hxy
          go_wp2
          go_round
          case rel => exact ⟨k + 1, by omega, by go_num, by rw [hS.out, Int.add_zero]⟩
          case measure => simp [intOf]; omega
        · rw [if_neg hxy] at hS hxor
          clear hxy
          go_wp2
          go_round
          case rel => exact ⟨k + 1, by omega, by go_num, by rw [hS.out]⟩
          case measure => simp [intOf]; omega
      · obtain rfl : k = n := by omega
        rw [List.take_of_length_le (by rw [HA.out]; exact Nat.le_refl _), List.take_of_length_le (by rw [HB.out]; exact Nat.le_refl _)]
        go_wp2
        go_ret2
        exact ⟨ret2_int hr.out, Below.refl _ _⟩
  · have hr := Lib.hid (show rBitDistance xs ys = (0, pairCode xs ys) by unfold rBitDistance; rw [if_neg hp])
    have hne : (pairCode xs ys != 0) = true := by rw [bne_iff_ne]; exact hp
    clear hp
    go_enter Try.func49, Try.ntmps49
    go_wp2_with fail
    refine (pairOfBits_any _ _ _ _ _ _ xs ys _ ha hb hn hm).mono ?_
    rintro e w' ⟨rfl, rfl⟩
    go_wp2_with fail
    go_ret2
    exact ⟨ret2_int hr.out, Below.refl _ _⟩
set_option maxHeartbeats 400000 in
theorem implXorBits_any (a : Option Addr) (n c : Nat) (xs : List Int) (b : Option Addr) (m d : Nat) (ys : List Int) (w : World) (ha : Rd .i64 w a n xs) (hn : n ≤ 1000000000) (hb : Rd .i64 w b m ys) (hm : m ≤ 1000000000) :
    Calls Try.prog 51 #[.slice a n c, .slice b m d] w (RetRow2 .i64 2 (rXorBits xs ys).1 (.int .i64 (rXorBits xs ys).2) w) := by
  by_cases hp : pairCode xs ys = 0
  · have hr := Lib.hid (show rXorBits xs ys = (xorL xs ys, 0) by unfold rXorBits; rw [if_pos hp])
    obtain ⟨h1, h2, h3⟩ := pairCode_0 hp
    have hb1 := Lib.hid ((isBits_iff xs).1 h1).2
    have hb2 := Lib.hid ((isBits_iff ys).1 h2).2
    have HX := Lib.hid (xorL_length h3)
    obtain rfl : n = m := by rw [← ha.len, ← hb.len]; exact h3
    clear h1 h2 h3
    have HA := Lib.hid ha.len
    obtain ⟨i0, hi, hz0, hz1, hz2⟩ := info_parts info_int64
    have HM := Lib.hid (show (xorL xs ys).length = n by rw [HX.out, HA.out])
    go_enter Try.func51, Try.ntmps51
    go_wp2_with fail
    refine (pairOfBits_any _ _ _ _ _ _ xs ys _ ha hb hn hm).mono ?_
    rintro e w' ⟨rfl, rfl⟩
    rw [hp]
    clear hp
    go_wp2_with (at_make; refine wpList_make_full _ rfl _ _ 23 rfl w.heap.size 2 i0 (.int .i64 0) 1 Try.underlying23 hi hz0 hz1 .i64 .i64 _ _ n rfl rfl rfl rfl (by rw [hz2]; omega) (by unfold maxLen; omega) (Nat.le_refl _) ?_; intro w1 hown1 hg1)
    clear hz0 hz1 hz2
    rw [made_ints] at hown1
    go_loopw [21] (fun i wr => ∃ k : Nat, k ≤ n ∧ i = .int .i64 k ∧ Ow .i64 2 w.heap.size wr (some ⟨w.heap.size, 0, none⟩) n n ((xorL xs ys).take k ++ List.replicate (n - k) 0) ∧ Below w.heap.size w wr) (fun i _ => n - (intOf i).toNat)
    case atStart => exact ⟨0, Nat.zero_le _, rfl, by simpa [Ow] using hown1, (Below.refl _ _).grown hg1 (Nat.le_refl _) (by simp)⟩
    case round =>
      clear hown1 hg1
      obtain ⟨k, hk, rfl, hown, hbel⟩ := hrel
      by_cases hlt : k < n
      · obtain ⟨b1, o1, x, rfl, -, hc1, hx, -, -⟩ := (ha.to hbel).at_ hlt
        obtain ⟨b2, o2, y, rfl, -, hc2, hy, -, -⟩ := (hb.to hbel).at_ hlt
        have hxor := i64_xor_bit x y (hb1.out x (List.mem_of_getElem? hx.out)) (hb2.out y (List.mem_of_getElem? hy.out))
        have hxm := Lib.hid (xorL_get hx.out hy.out)
        have hold := hown.cell (fill_get hlt HM.out)
        have hfr := hown.free k
        by_cases hxy : x = y
        · rw [if_pos hxy] at hxm hxor
          clear hxy
          go_wp2
          go_roundw
          case rel => exact ⟨k + 1, by omega, by go_num, by rw [← fill_set hxm.out HM.out]; exact hown.set_ k _, hbel.setCell (Nat.le_refl _) _⟩
          case measure => simp [intOf]; omega
        · rw [if_neg hxy] at hxm hxor
          clear hxy
          go_wp2
          go_roundw
          case rel => exact ⟨k + 1, by omega, by go_num, by rw [← fill_set hxm.out HM.out]; exact hown.set_ k _, hbel.setCell (Nat.le_refl _) _⟩
          case measure => simp [intOf]; omega
      · obtain rfl : k = n := by omega
        rw [fill_all HM.out] at hown
        go_wp2
        go_ret2
        exact retRow2_of hr.out hown hbel
  · have hr := Lib.hid (show rXorBits xs ys = ([], pairCode xs ys) by unfold rXorBits; rw [if_neg hp])
    have hne : (pairCode xs ys != 0) = true := by rw [bne_iff_ne]; exact hp
    clear hp
    go_enter Try.func51, Try.ntmps51
    go_wp2_with fail
    refine (pairOfBits_any _ _ _ _ _ _ xs ys _ ha hb hn hm).mono ?_
    rintro e w' ⟨rfl, rfl⟩
    go_wp2_with fail
    go_ret2
    exact retRow2_nil hr.out (Below.refl _ _)
end Go.Proofs.Ytagdkaigdehohaa
