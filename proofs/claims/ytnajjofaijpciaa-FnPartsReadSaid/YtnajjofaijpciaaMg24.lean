/-
  Texts of the proof, one behind the other: each bears its own heading.
  Conditions: as the headings say.
-/
import Derived.Test.YtnajjofaijpciaaFieldH
import Derived.Test.YtnajjofaijpciaaMg14
import Derived.Test.YtnajjofaijpciaaMg2
/-
  Contracts: the width of a field, by the reference and by the program.
  Conditions: none.
-/
set_option linter.unusedVariables false
namespace Go.Proofs.Ytnajjofaijpciaa
open Go.RowKit Go.G8
def wF (s : Int) : Nat → Nat → Nat
  | 0, k => k
  | n + 1, k => if 2 * 2 ^ k ≤ s then wF s n (k + 1) else k
def wOf (s : Int) : Nat := wF s 10 0
theorem wF_yes {s : Int} {n k : Nat} (h : 2 * 2 ^ k ≤ s) : wF s (n + 1) k = wF s n (k + 1) := by simp only [wF]; rw [if_pos h]
theorem wF_no {s : Int} {n k : Nat} (h : ¬ 2 * 2 ^ k ≤ s) : wF s n k = k := by
  cases n with
  | zero => rfl
  | succ n => simp only [wF]; rw [if_neg h]
theorem two_shl {k : Nat} (hk : k ≤ 10) : wrap64 (2 * 2 ^ k) = 2 * 2 ^ k ∧ 0 < (2 : Int) * 2 ^ k ∧ (2 : Int) * 2 ^ k ≤ 2048 := by
  have : k = 0 ∨ k = 1 ∨ k = 2 ∨ k = 3 ∨ k = 4 ∨ k = 5 ∨ k = 6 ∨ k = 7 ∨ k = 8 ∨ k = 9 ∨ k = 10 := by omega
  rcases this with rfl | rfl | rfl | rfl | rfl | rfl | rfl | rfl | rfl | rfl | rfl <;> exact ⟨by unfold wrap64; omega, by omega, by omega⟩
theorem shl_small {k : Nat} {s : Int} (hk : k ≤ 10) (h : (2 : Int) * 2 ^ k ≤ s) (hs : s ≤ 1021) : k < 9 := by
  rcases Nat.lt_or_ge k 9 with h1 | h1
  · exact h1
  · have : k = 9 ∨ k = 10 := by omega
    rcases this with rfl | rfl <;> exfalso <;> omega
def widthR (p q y : Int) : Int := if fieldB p q y then wOf (fsize p q) else 0
theorem widthR_yes {p q y : Int} (h : fieldB p q y = true) : widthR p q y = wOf (fsize p q) := by unfold widthR; rw [if_pos h]
theorem widthR_no {p q y : Int} (h : fieldB p q y = false) : widthR p q y = 0 := by unfold widthR; rw [if_neg (by rw [h]; simp)]
theorem l11Width_any (p q y : Int) (w : World) (h : fieldB p q y = true) : Calls Try.prog 61 #[.agg #[.int .i64 p, .int .i64 q, .int .i64 y]] w (RetB (.int .i64 (wOf (fsize p q))) w) := by
  have HL := Lib.hid (fun w => l02Size_any w h)
  obtain ⟨hs1, hs2⟩ := fsize_bd h
  obtain ⟨s, hs⟩ : ∃ s, fsize p q = s := ⟨_, rfl⟩
  rw [hs] at HL hs1 hs2 ⊢
  clear hs h
  go_enter Try.func61, Try.ntmps61
  go_wp2
  go_loopw [3] (fun i wr => ∃ k : Nat, k ≤ 10 ∧ i = .int .i64 k ∧ Hid (wF s (10 - k) k = wOf s) ∧ Below w.heap.size w wr ∧ wr.cell? ⟨w.heap.size, 0, none⟩ = some (.int .i64 p) ∧ wr.cell? ⟨w.heap.size, 1, none⟩ = some (.int .i64 q) ∧ wr.cell? ⟨w.heap.size, 2, none⟩ = some (.int .i64 y) ∧ w.heap.size < wr.heap.size) (fun i _ => 11 - (intOf i).toNat)
  case atStart =>
    refine ⟨0, by omega, by go_num, rfl, Below.alloc (Below.refl _ _) (Nat.le_refl _) _, ?_, ?_, ?_, by simp⟩ <;> rw [cell_of_row _ _ _ _ _ (0, 0) (heap_alloc_new w _)] <;> rfl
  case round =>
    obtain ⟨k, hk, rfl, hw, hbw, hc0, hc1, hc2, hlt⟩ := hrel
    obtain ⟨hsh, hsh1, hsh2⟩ := two_shl hk
    by_cases hl : (2 : Int) * 2 ^ k ≤ s
    · have hk9 := shl_small hk hl hs2
      have hws : Hid (wF s (10 - (k + 1)) (k + 1) = wOf s) := by
        have := hw.out
        rw [show 10 - k = (10 - (k + 1)) + 1 by omega, wF_yes hl] at this
        exact this
      have hle : wrap64 (2 * 2 ^ k) ≤ s := by rw [hsh]; exact hl
      clear hl hsh hsh1 hsh2
      go_wp2_with fail
      refine (HL.out _).mono ?_
      rintro e w1 ⟨rfl, hb1⟩
      obtain ⟨hcc, hff⟩ := bcell hb1
      have hsz := hb1.size
      go_wp2_with fail
      exact ⟨⟨k + 1, by omega, by go_num, hws, bt hbw hb1, (hcc w.heap.size 0 hlt).trans hc0, (hcc w.heap.size 1 hlt).trans hc1, (hcc w.heap.size 2 hlt).trans hc2, by omega⟩, by simp [intOf]; omega⟩
    · have hr := Lib.hid (wF_no (n := 10 - k) hl)
      have hle : s < wrap64 (2 * 2 ^ k) := by rw [hsh]; omega
      have hled : decide (wrap64 (2 * 2 ^ k) ≤ s) = false := by rw [decide_eq_false_iff_not]; omega
      clear hl hsh hsh1 hsh2
      go_wp2_with fail
      refine (HL.out _).mono ?_
      rintro e w1 ⟨rfl, hb1⟩
      go_wp2_with fail
      go_ret
      exact ⟨ret_int (by rw [← hw.out, hr.out]), bt hbw hb1⟩
theorem calcWidth (T : TypeId) (g : Nat) (s : Int) (w : World) (hs : s ≤ 1021) (hc : w.cell? ⟨g, 1, none⟩ = some (.int .i64 s)) (hg : g < w.heap.size) : Calls Try.prog 65 #[.pointer (some ⟨g, 0, none⟩)] w (RetB (.int .i64 (wOf s)) w) := by
  go_enter Try.func65, Try.ntmps65
  go_wp2
  go_loopw [3] (fun i wr => ∃ k : Nat, k ≤ 10 ∧ i = .int .i64 k ∧ Hid (wF s (10 - k) k = wOf s) ∧ Below w.heap.size w wr) (fun i _ => 11 - (intOf i).toNat)
  case atStart => exact ⟨0, by omega, by go_num, rfl, Below.refl _ _⟩
  case round =>
    obtain ⟨k, hk, rfl, hw, hbw⟩ := hrel
    obtain ⟨hcc, hff⟩ := bcell hbw
    have hc2 := (hcc g 1 hg).trans hc
    obtain ⟨hsh, hsh1, hsh2⟩ := two_shl hk
    by_cases hl : (2 : Int) * 2 ^ k ≤ s
    · have hk9 := shl_small hk hl hs
      have hws : Hid (wF s (10 - (k + 1)) (k + 1) = wOf s) := by
        have := hw.out
        rw [show 10 - k = (10 - (k + 1)) + 1 by omega, wF_yes hl] at this
        exact this
      have hle : wrap64 (2 * 2 ^ k) ≤ s := by rw [hsh]; exact hl
      have hled : decide (wrap64 (2 * 2 ^ k) ≤ s) = true := by rw [decide_eq_true_eq]; exact hle
      clear hl hsh hsh1 hsh2
      go_wp2
      go_quiet (fail)
      go_wp2
      exact ⟨⟨k + 1, by omega, by go_num, hws, hbw.trans (below_drewN (Below.refl _ _) _)⟩, by simp [intOf]; omega⟩
    · have hr := Lib.hid (wF_no (n := 10 - k) hl)
      have hle : s < wrap64 (2 * 2 ^ k) := by rw [hsh]; omega
      have hled : decide (wrap64 (2 * 2 ^ k) ≤ s) = false := by rw [decide_eq_false_iff_not]; omega
      clear hl hsh hsh1 hsh2
      go_wp2
      go_quiet (fail)
      go_wp2
      go_ret
      exact ⟨ret_int (by rw [← hw.out, hr.out]), hbw.trans (below_drewN (Below.refl _ _) _)⟩
end Go.Proofs.Ytnajjofaijpciaa
/-
  Contracts of chapter 1 of the program and of the reference: numbers appended to bit lists.
  Conditions: named at each contract; they are bounds on lengths.
-/
set_option linter.unusedVariables false
namespace Go.Proofs.Ytnajjofaijpciaa
open Go.RowKit Go.G8

theorem l01Own_any (a : Option Addr) (n c : Nat) (xs : List Int) (w : World) (h : Rd .i64 w a n xs) (hn : n ≤ 1000000000) :
    Calls Try.prog 92 #[.slice a n c] w (RetRow .i64 2 xs w) := by
  obtain ⟨i0, hi, hz0, hz1, hz2⟩ := info_parts info_int64
  go_enter Try.func92, Try.ntmps92
  go_wp2_with (at_builtin; refine wpList_appendAll .i64 _ rfl _ _ 22 rfl w.heap.size 2 i0 8 Try.underlying22 hi hz0 hz1 hz2 (by omega) _ _ _ [] a n c xs rfl (Ow.empty _ _ _ w (Nat.le_refl _)) rfl (h.to ((Below.refl _ _).alloc (Nat.le_refl _) _)) (by omega) (by simp) ?_; intro a2 n2 c2 w2 hown2 hbel2)
  go_ret
  exact ⟨_, _, _, rfl, hown2, ((Below.refl _ _).alloc (Nat.le_refl _) _).trans hbel2⟩
theorem lowBits_step {ys xs : List Int} {v : Int} {m d : Nat} (h : ys ++ lowBits v (m + 1) = xs ++ lowBits v d) : (ys ++ [v / 2 ^ m % 2]) ++ lowBits v m = xs ++ lowBits v d := by
  rw [← h]; simp [lowBits]
set_option maxHeartbeats 400000 in
theorem appendNumber_any (B : Nat) (a : Option Addr) (n c : Nat) (xs : List Int) (v wd : Int) (w : World) (h : Ow .i64 2 B w a n c xs) (hB : B ≤ w.heap.size) (hn : n ≤ 100000000) (hv : -9223372036854775808 ≤ v ∧ v ≤ 9223372036854775807) (h1 : 0 ≤ wd) (h2 : wd ≤ 64) :
    Calls Try.prog 66 #[.slice a n c, .int .i64 v, .int .i64 wd] w (GrowRow .i64 2 B (xs ++ lowBits v wd.toNat) w) := by
  obtain ⟨d, rfl⟩ := Int.eq_ofNat_of_zero_le h1
  obtain ⟨i0, hi, hz0, hz1, hz2⟩ := info_parts info_int64
  obtain ⟨hv1, hv2⟩ := hv
  go_enter Try.func66, Try.ntmps66
  go_wp2
  go_loopw [0, 7] (fun l k wr => ∃ (a' : Option Addr) (n' c' : Nat) (ys : List Int) (m : Nat), m ≤ d ∧ k = .int .i64 ((m : Int) - 1) ∧ l = .slice a' n' c' ∧ Ow .i64 2 B wr a' n' c' ys ∧ Hid (ys ++ lowBits v m = xs ++ lowBits v d) ∧ n' ≤ n + (d - m) ∧ Below B w wr) (fun _ k _ => (intOf k + 1).toNat)
  case atStart => exact ⟨a, n, c, xs, d, Nat.le_refl _, rfl, rfl, h, rfl, by omega, Below.refl _ _⟩
  case round =>
    obtain ⟨a', n', c', ys, m, hm, rfl, rfl, hown, heq, hn', hbel⟩ := hrel
    have hBr := hbel.size
    rcases m with _ | m
    · go_wp2
      go_ret
      have := heq.out
      simp only [lowBits, List.append_nil] at this
      rw [this] at hown
      exact ⟨_, _, _, rfl, by simpa using hown, hbel⟩
    · have hb := i64_and1 (v / 2 ^ m)
      have e0 : ((m + 1 : Nat) : Int) - 1 = (m : Int) := by omega
      rw [e0]
      clear e0
      go_wp2_with (at_builtin; refine wpList_push .i64 _ rfl _ _ 22 rfl B 2 _ i0 8 Try.underlying22 hi hz0 hz1 hz2 (by omega) a' n' c' ys _ rfl hown rfl (by omega) (by omega) ?_; intro a2 n2 c2 w2 hown2 hbel2)
      go_roundw
      case rel => exact ⟨a2, n2, c2, _, m, by omega, by go_num, rfl, hown2, lowBits_step heq.out, by have e1 := hown2.len; have e2 := hown.len; simp at e1; omega, hbel.trans hbel2⟩
      case measure => simp [intOf]
set_option maxHeartbeats 400000 in
theorem l01Append_any (a : Option Addr) (n c : Nat) (xs : List Int) (v wd : Int) (w : World) (h : Rd .i64 w a n xs) (hn : n ≤ 100000000) (hv : -9223372036854775808 ≤ v ∧ v ≤ 9223372036854775807) (h1 : 0 ≤ wd) (h2 : wd ≤ 64) :
    Calls Try.prog 62 #[.slice a n c, .int .i64 v, .int .i64 wd] w (RetRow .i64 2 (xs ++ lowBits v wd.toNat) w) := by
  obtain ⟨d, rfl⟩ := Int.eq_ofNat_of_zero_le h1
  obtain ⟨i0, hi, hz0, hz1, hz2⟩ := info_parts info_int64
  obtain ⟨hv1, hv2⟩ := hv
  go_enter Try.func62, Try.ntmps62
  go_wp2_with (at_builtin; refine wpList_appendAll .i64 _ rfl _ _ 22 rfl w.heap.size 2 i0 8 Try.underlying22 hi hz0 hz1 hz2 (by omega) _ _ _ [] a n c xs rfl (Ow.empty _ _ _ w (Nat.le_refl _)) rfl (h.to ((Below.refl _ _).alloc (Nat.le_refl _) _)) (by omega) (by simp) ?_; intro a2 n2 c2 w2 hown2 hbel2)
  have hb2 : Below w.heap.size w w2 := ((Below.refl _ _).alloc (Nat.le_refl _) _).trans hbel2
  have hn2 : n2 ≤ n := by have e1 := hown2.len; have e2 := h.len; simp at e1; omega
  clear hbel2
  go_loopw [7, 8] (fun l k wr => ∃ (a' : Option Addr) (n' c' : Nat) (ys : List Int) (m : Nat), m ≤ d ∧ k = .int .i64 ((m : Int) - 1) ∧ l = .slice a' n' c' ∧ Ow .i64 2 w.heap.size wr a' n' c' ys ∧ Hid (ys ++ lowBits v m = xs ++ lowBits v d) ∧ n' ≤ n + (d - m) ∧ Below w.heap.size w wr) (fun _ k _ => (intOf k + 1).toNat)
  case atStart => exact ⟨a2, n2, c2, xs, d, Nat.le_refl _, rfl, rfl, hown2, rfl, by omega, hb2⟩
  case round =>
    clear hown2 hb2 hn2
    obtain ⟨a', n', c', ys, m, hm, rfl, rfl, hown, heq, hn', hbel⟩ := hrel
    have hBr := hbel.size
    rcases m with _ | m
    · go_wp2
      go_ret
      have := heq.out
      simp only [lowBits, List.append_nil] at this
      rw [this] at hown
      exact ⟨_, _, _, rfl, by simpa using hown, hbel⟩
    · have hb := i64_and1 (v / 2 ^ m)
      have e0 : ((m + 1 : Nat) : Int) - 1 = (m : Int) := by omega
      rw [e0]
      clear e0
      go_wp2_with (at_builtin; refine wpList_push .i64 _ rfl _ _ 22 rfl w.heap.size 2 _ i0 8 Try.underlying22 hi hz0 hz1 hz2 (by omega) a' n' c' ys _ rfl hown rfl (by omega) (by omega) ?_; intro a2 n2 c2 w2 hown2 hbel2)
      go_roundw
      case rel => exact ⟨a2, n2, c2, _, m, by omega, by go_num, rfl, hown2, lowBits_step heq.out, by have e1 := hown2.len; have e2 := hown.len; simp at e1; omega, hbel.trans hbel2⟩
      case measure => simp [intOf]
end Go.Proofs.Ytnajjofaijpciaa
/-
  Contracts: whether numbers are elements of a field; the code of a field and elements.
  Conditions: none.
-/
set_option linter.unusedVariables false
namespace Go.Proofs.Ytnajjofaijpciaa
open Go.RowKit Go.G8
def inF (s x : Int) : Bool := decide (0 ≤ x ∧ x ≤ s - 1)
def allF (s : Int) (xs : List Int) : Bool := xs.all (inF s)
theorem allF_bad {s x : Int} {xs : List Int} {k : Nat} (hx : xs[k]? = some x) (h : ¬ (0 ≤ x ∧ x ≤ s - 1)) : allF s xs = false := by
  rw [Bool.eq_false_iff]
  intro e
  have := List.all_eq_true.1 e x (List.mem_of_getElem? hx)
  simp only [inF, decide_eq_true_eq] at this
  exact h this
theorem allF_snoc {s x : Int} {xs : List Int} {k : Nat} (hx : xs[k]? = some x) (h : allF s (xs.take k) = true) (hi : 0 ≤ x ∧ x ≤ s - 1) : allF s (xs.take (k + 1)) = true := by
  obtain ⟨hk, rfl⟩ := List.getElem?_eq_some_iff.1 hx
  unfold allF at *
  rw [List.take_succ_eq_append_getElem hk, List.all_append, h]
  simp [inF, hi]
def codeF (p q y : Int) (xs : List Int) : Int := if fieldB p q y then (if allF (fsize p q) xs then 0 else 2) else 1
theorem has_yes (g : Nat) (s a : Int) (w : World) (hs : 3 ≤ s ∧ s ≤ 1021) (hc : w.cell? ⟨g, 1, none⟩ = some (.int .i64 s)) (h : 0 ≤ a ∧ a ≤ s - 1) : Calls Try.prog 83 #[.pointer (some ⟨g, 0, none⟩), .int .i64 a] w (RetS (.bool true) w) := by
  obtain ⟨hs1, hs2⟩ := hs
  go_enter Try.func83, Try.ntmps83
  go_wp2_with fail
  refine (inRange_yes a 0 (s - 1) _ h).mono ?_
  rintro e w' ⟨rfl, rfl⟩
  go_wp2
  go_ret
  exact ⟨rfl, rfl⟩
theorem has_no (g : Nat) (s a : Int) (w : World) (hs : 3 ≤ s ∧ s ≤ 1021) (hc : w.cell? ⟨g, 1, none⟩ = some (.int .i64 s)) (h : ¬ (0 ≤ a ∧ a ≤ s - 1)) : Calls Try.prog 83 #[.pointer (some ⟨g, 0, none⟩), .int .i64 a] w (RetS (.bool false) w) := by
  obtain ⟨hs1, hs2⟩ := hs
  go_enter Try.func83, Try.ntmps83
  go_wp2_with fail
  refine (inRange_no a 0 (s - 1) _ h).mono ?_
  rintro e w' ⟨rfl, rfl⟩
  go_wp2
  go_ret
  exact ⟨rfl, rfl⟩
theorem hasAll_any (g : Nat) (s : Int) (a : Option Addr) (n c : Nat) (xs : List Int) (w : World) (hs : 3 ≤ s ∧ s ≤ 1021) (hc : w.cell? ⟨g, 1, none⟩ = some (.int .i64 s)) (h : Rd .i64 w a n xs) (hn : n ≤ 1000000000) :
    Calls Try.prog 64 #[.pointer (some ⟨g, 0, none⟩), .slice a n c] w (RetS (.bool (allF s xs)) w) := by
  have HA := Lib.hid h.len
  go_enter Try.func64, Try.ntmps64
  go_wp2
  go_loop [9] (fun i => ∃ k : Nat, k ≤ n ∧ i = .int .i64 k ∧ Hid (allF s (xs.take k) = true)) (fun i => n - (intOf i).toNat)
  case atStart => exact ⟨0, Nat.zero_le _, rfl, rfl⟩
  case round =>
    obtain ⟨k, hk, rfl, hal⟩ := hrel
    by_cases hlt : k < n
    · obtain ⟨b, o, x, rfl, -, hcell, hx, -, -⟩ := h.at_ hlt
      by_cases hi : 0 ≤ x ∧ x ≤ s - 1
      · have hS := Lib.hid (allF_snoc hx.out hal.out hi)
        go_wp2_with (go_at_call 83; refine (has_yes g s x _ hs hc hi).mono ?_; rintro e w' ⟨rfl, rfl⟩)
        go_round
        case rel => exact ⟨k + 1, by omega, by go_num, hS⟩
        case measure => simp [intOf]; omega
      · have hr := Lib.hid (allF_bad hx.out hi)
        go_wp2_with (go_at_call 83; refine (has_no g s x _ hs hc hi).mono ?_; rintro e w' ⟨rfl, rfl⟩)
        go_ret
        exact ⟨ret_bool hr.out.symm, rfl⟩
    · obtain rfl : k = n := by omega
      go_wp2
      go_ret
      have := hal.out
      rw [List.take_of_length_le (by rw [HA.out]; exact Nat.le_refl _)] at this
      exact ⟨ret_bool this.symm, rfl⟩
theorem keep4 {wr w1 : World} {b o h : Nat} {x1 x2 x3 x4 : Value} (hb1 : Below wr.drew.heap.size wr.drew w1) (hbr : b < wr.heap.size) (hlt : h < wr.heap.size) (c1 : wr.cell? ⟨b, o, none⟩ = some x1) (c2 : wr.cell? ⟨h, 0, none⟩ = some x2) (c3 : wr.cell? ⟨h, 1, none⟩ = some x3) (c4 : wr.cell? ⟨h, 2, none⟩ = some x4) :
    w1.cell? ⟨b, o, none⟩ = some x1 ∧ w1.cell? ⟨h, 0, none⟩ = some x2 ∧ w1.cell? ⟨h, 1, none⟩ = some x3 ∧ w1.cell? ⟨h, 2, none⟩ = some x4 := by
  obtain ⟨hcc, hff⟩ := bcell hb1
  exact ⟨(hcc b o hbr).trans c1, (hcc h 0 hlt).trans c2, (hcc h 1 hlt).trans c3, (hcc h 2 hlt).trans c4⟩
set_option maxHeartbeats 1000000 in
theorem l02Is_any (p q y : Int) (a : Option Addr) (n c : Nat) (xs : List Int) (w : World) (hf : fieldB p q y = true) (h : Rd .i64 w a n xs) (hn : n ≤ 1000000000) :
    Calls Try.prog 78 #[.agg #[.int .i64 p, .int .i64 q, .int .i64 y], .slice a n c] w (RetB (.bool (allF (fsize p q) xs)) w) := by
  have HL := Lib.hid (fun w => l02Size_any w hf)
  obtain ⟨hs1, hs2⟩ := fsize_bd hf
  obtain ⟨s, hs⟩ : ∃ s, fsize p q = s := ⟨_, rfl⟩
  rw [hs] at HL hs1 hs2 ⊢
  clear hs hf
  have HA := Lib.hid h.len
  go_enter Try.func78, Try.ntmps78
  go_wp2
  go_loopw [5] (fun i wr => ∃ k : Nat, k ≤ n ∧ i = .int .i64 k ∧ Hid (allF s (xs.take k) = true) ∧ Below w.heap.size w wr ∧ wr.cell? ⟨w.heap.size, 0, none⟩ = some (.int .i64 p) ∧ wr.cell? ⟨w.heap.size, 1, none⟩ = some (.int .i64 q) ∧ wr.cell? ⟨w.heap.size, 2, none⟩ = some (.int .i64 y) ∧ w.heap.size < wr.heap.size) (fun i _ => n - (intOf i).toNat)
  case atStart =>
    refine ⟨0, by omega, by go_num, rfl, Below.alloc (Below.refl _ _) (Nat.le_refl _) _, ?_, ?_, ?_, by simp⟩ <;> rw [cell_of_row _ _ _ _ _ (0, 0) (heap_alloc_new w _)] <;> rfl
  case round =>
    obtain ⟨k, hk, rfl, hal, hbw, hc0, hc1, hc2, hlt⟩ := hrel
    by_cases hkn : k < n
    · obtain ⟨b, o, x, rfl, hbl, hcell, hx, -, -⟩ := h.at_ hkn
      have hcl := (hbw.cell (p := ⟨b, o + k, none⟩) hbl).trans hcell
      have hbr : b < wr.heap.size := by have := hbw.size; omega
      have hk1 : (0 : Int) ≤ (k : Int) := by omega
      have hk2 : (k : Int) < (n : Int) := by omega
      by_cases hi : 0 ≤ x ∧ x ≤ s - 1
      · have hS := Lib.hid (allF_snoc hx.out hal.out hi)
        have hw1 : IntKind.i64.wrap (s - 1) = s - 1 := IntWalk.i64_in _ (by omega)
        go_wp2
        go_region_held3 (fun w' => w'.cell? ⟨b, o + k, none⟩ = some (.int .i64 x) ∧ w'.cell? ⟨w.heap.size, 0, none⟩ = some (.int .i64 p) ∧ w'.cell? ⟨w.heap.size, 1, none⟩ = some (.int .i64 q) ∧ w'.cell? ⟨w.heap.size, 2, none⟩ = some (.int .i64 y))
          (first | go_keep | exact keep4 hb1 hbr hlt hcl hc0 hc1 hc2)
          (first | (go_at_call 52; refine (HL.out _).mono ?_; rintro e w1 ⟨rfl, hb1⟩) | (go_at_call 30; refine (l01In_yes x 0 (s - 1) _ hi).mono ?_; rintro e w' ⟨rfl, rfl⟩))
        obtain ⟨hd1, hd2, hd3, hd4⟩ := keep4 hb1 hbr hlt hcl hc0 hc1 hc2
        have hb2 := ((Below.refl wr.heap.size wr).drew).trans hb1
        have hsz := hb2.size
        go_wp2
        exact ⟨⟨k + 1, by omega, by go_num, hS, bt hbw hb2, hd2, hd3, hd4, by omega⟩, by simp [intOf]; omega⟩
      · have hr := Lib.hid (allF_bad hx.out hi)
        have hw1 : IntKind.i64.wrap (s - 1) = s - 1 := IntWalk.i64_in _ (by omega)
        go_wp2
        go_region_held3 (fun w' => w'.cell? ⟨b, o + k, none⟩ = some (.int .i64 x) ∧ w'.cell? ⟨w.heap.size, 0, none⟩ = some (.int .i64 p) ∧ w'.cell? ⟨w.heap.size, 1, none⟩ = some (.int .i64 q) ∧ w'.cell? ⟨w.heap.size, 2, none⟩ = some (.int .i64 y))
          (first | go_keep | exact keep4 hb1 hbr hlt hcl hc0 hc1 hc2)
          (first | (go_at_call 52; refine (HL.out _).mono ?_; rintro e w1 ⟨rfl, hb1⟩) | (go_at_call 30; refine (l01In_no x 0 (s - 1) _ hi).mono ?_; rintro e w' ⟨rfl, rfl⟩))
        have hb2 := ((Below.refl wr.heap.size wr).drew).trans hb1
        go_wp2
        go_ret
        exact ⟨ret_bool hr.out.symm, bt hbw hb2⟩
    · obtain rfl : k = n := by omega
      have hal2 := hal.out
      rw [List.take_of_length_le (by rw [HA.out]; exact Nat.le_refl _)] at hal2
      have HR := Lib.hid hal2
      clear hal2
      go_wp2
      go_ret
      exact ⟨ret_bool HR.out.symm, hbw⟩
end Go.Proofs.Ytnajjofaijpciaa
/-
  Contracts: the code of a field and elements, by the reference and by the program.
  Conditions: none.
-/
set_option linter.unusedVariables false
namespace Go.Proofs.Ytnajjofaijpciaa
open Go.RowKit Go.G8
theorem codeF_bad {p q y : Int} {xs : List Int} (h : fieldB p q y = false) : codeF p q y xs = 1 := by unfold codeF; rw [h]; rfl
theorem codeF_out {p q y : Int} {xs : List Int} (h : fieldB p q y = true) (h2 : allF (fsize p q) xs = false) : codeF p q y xs = 2 := by unfold codeF; rw [h, h2]; rfl
theorem codeF_ok {p q y : Int} {xs : List Int} (h : fieldB p q y = true) (h2 : allF (fsize p q) xs = true) : codeF p q y xs = 0 := by unfold codeF; rw [h, h2]; rfl
def ElemRes (T : TypeId) (p q y : Int) (xs : List Int) (w : World) (e : Ending) (w' : World) : Prop :=
  ∃ o : Option Addr, e = .returned (.tuple #[.pointer o, .int .i64 (codeF p q y xs)]) ∧ Below w.heap.size w w' ∧
    (codeF p q y xs = 0 → ∃ G, o = some ⟨G, 0, none⟩ ∧ w.heap.size ≤ G ∧ Tab T w' G (!decide (q = 1)) (fsize p q) (expT (tF p q y) (fN p q)) (logT (tF p q y) (fN p q)))
end Go.Proofs.Ytnajjofaijpciaa
/-
  Contracts: whether a list is a polynomial over a field, by the reference and by the program.
  Conditions: none.
-/
set_option linter.unusedVariables false
namespace Go.Proofs.Ytnajjofaijpciaa
open Go.RowKit Go.G8
theorem start3 (w : World) (a b c : Value) (T : TypeId) : Below w.heap.size w (w.alloc (.cells #[a, b, c] T)) ∧ w.heap.size < (w.alloc (.cells #[a, b, c] T)).heap.size ∧
    (w.alloc (.cells #[a, b, c] T)).cell? ⟨w.heap.size, 0, none⟩ = some a ∧ (w.alloc (.cells #[a, b, c] T)).cell? ⟨w.heap.size, 1, none⟩ = some b ∧ (w.alloc (.cells #[a, b, c] T)).cell? ⟨w.heap.size, 2, none⟩ = some c := by
  refine ⟨Below.alloc (Below.refl _ _) (Nat.le_refl _) _, by simp, ?_, ?_, ?_⟩ <;> rw [cell_of_row _ _ _ _ _ (0, 0) (heap_alloc_new w _)] <;> rfl
theorem two_blocks2 (w : World) (A B : Array Value) (T E : TypeId) (v : Value) (hB : B = #[v]) :
    Below w.heap.size w ((w.alloc (.cells A T)).alloc (.cells B E)) ∧ ((w.alloc (.cells A T)).alloc (.cells B E)).cell? ⟨w.heap.size + 1, 0, none⟩ = some v ∧
    (∀ i u, A[i]? = some u → ((w.alloc (.cells A T)).alloc (.cells B E)).cell? ⟨w.heap.size, i, none⟩ = some u) ∧ w.heap.size < ((w.alloc (.cells A T)).alloc (.cells B E)).heap.size := by
  subst hB
  refine ⟨Below.alloc (Below.alloc (Below.refl w.heap.size w) (Nat.le_refl _) _) (by simp) _, ?_, fun i u hv => ?_, by simp; omega⟩
  · have h := alloc_cell (w.alloc (.cells A T)) v E
    rw [show (w.alloc (.cells A T)).heap.size = w.heap.size + 1 by simp] at h
    exact h
  · rw [alloc_cell_old _ _ _ _ (by simp), cell_of_row _ _ _ _ _ (0, 0) (heap_alloc_new w _), hv]
def lastNZ (xs : List Int) : Bool := match xs.getLast? with | none => true | some x => x != 0
def polyB (s : Int) (xs : List Int) : Bool := decide (xs.length ≤ 512) && (allF s xs && lastNZ xs)
theorem polyB_long {s : Int} {xs : List Int} (h : ¬ xs.length ≤ 512) : polyB s xs = false := by unfold polyB; rw [decide_eq_false h]; rfl
theorem polyB_out {s : Int} {xs : List Int} (h : allF s xs = false) : polyB s xs = false := by unfold polyB; rw [h]; simp
theorem polyB_nil {s : Int} : polyB s [] = true := rfl
theorem polyB_last {s x : Int} {xs : List Int} {n : Nat} (h : xs.length ≤ 512) (h2 : allF s xs = true) (hn : xs.length = n + 1) (hx : xs[n]? = some x) : polyB s xs = (x != 0) := by
  unfold polyB lastNZ
  rw [decide_eq_true h, h2, List.getLast?_eq_getElem?, show xs.length - 1 = n by omega, hx]
  rfl
def isPolyB (p q y : Int) (xs : List Int) : Bool := fieldB p q y && polyB (fsize p q) xs
theorem isPolyB_no {p q y : Int} {xs : List Int} (h : fieldB p q y = false) : isPolyB p q y xs = false := by unfold isPolyB; rw [h]; rfl
theorem isPolyB_yes {p q y : Int} {xs : List Int} (h : fieldB p q y = true) : isPolyB p q y xs = polyB (fsize p q) xs := by unfold isPolyB; rw [h]; rfl
end Go.Proofs.Ytnajjofaijpciaa
/-
  Contracts: the elements with bits, by the reference and by the program.
  Conditions: none.
-/
set_option linter.unusedVariables false
namespace Go.Proofs.Ytnajjofaijpciaa
open Go.RowKit Go.G8
theorem wF_bd {s : Int} (hs : s ≤ 1021) : ∀ (n k : Nat), (2 : Int) ^ k ≤ s → k ≤ wF s n k ∧ (2 : Int) ^ (wF s n k) ≤ s := by
  intro n
  induction n with
  | zero => intro k hk; exact ⟨Nat.le_refl _, hk⟩
  | succ n ih =>
    intro k hk
    by_cases h : (2 : Int) * 2 ^ k ≤ s
    · rw [wF_yes h]
      have := ih (k + 1) (by rw [Int.pow_succ]; omega)
      omega
    · rw [wF_no h]; exact ⟨Nat.le_refl _, hk⟩
theorem wOf_bd {s : Int} (h3 : 3 ≤ s) (hs : s ≤ 1021) : 1 ≤ wOf s ∧ wOf s ≤ 9 ∧ (2 : Int) ^ (wOf s) ≤ s := by
  have h1 : wOf s = wF s 9 1 := by unfold wOf; rw [wF_yes (by simp; omega)]
  have h := wF_bd hs 9 1 (by simp; omega)
  rw [← h1] at h
  refine ⟨h.1, ?_, h.2⟩
  rcases Nat.lt_or_ge (wOf s) 10 with hl | hg
  · omega
  · exfalso
    have : (2 : Nat) ^ 10 ≤ 2 ^ (wOf s) := Nat.pow_le_pow_right (by decide) hg
    have e : ((2 ^ (wOf s) : Nat) : Int) = (2 : Int) ^ (wOf s) := Int.natCast_pow 2 _
    omega
def elemsL (xs : List Int) (w m : Nat) : List Int := (List.range m).map (fun j => num (bpart xs (w * j) w))
theorem elemsL_succ (xs : List Int) (w m : Nat) : elemsL xs w (m + 1) = elemsL xs w m ++ [num (bpart xs (w * m) w)] := by simp [elemsL, List.range_succ]
theorem elemsL_length (xs : List Int) (w m : Nat) : (elemsL xs w m).length = m := by simp [elemsL]
theorem elemsL_fits {xs : List Int} (h : ∀ x ∈ xs, x = 0 ∨ x = 1) (w m : Nat) (hw : w ≤ 32) : ∀ x ∈ elemsL xs w m, fits .i64 x := by
  intro x hx
  simp only [elemsL, List.mem_map] at hx
  obtain ⟨j, _, rfl⟩ := hx
  have := part_num h (w * j) w hw
  show -9223372036854775808 ≤ _ ∧ _ ≤ 9223372036854775807
  omega
set_option maxHeartbeats 1000000 in
set_option maxRecDepth 20000 in
theorem l11Elements_any (a : Option Addr) (n c : Nat) (xs : List Int) (wd m : Nat) (w : World) (h : Rd .i64 w a n xs) (hb : Hid (∀ x ∈ xs, x = 0 ∨ x = 1)) (hw : 1 ≤ wd ∧ wd ≤ 9) (hn : n ≤ 8192) (hm : n = wd * m) :
    Calls Try.prog 75 #[.int .i64 wd, .slice a n c] w (RetRow .i64 2 (elemsL xs wd m) w) := by
  obtain ⟨i0, hi, hz0, hz1, hz2⟩ := info_parts info_int64
  obtain ⟨hw1, hw2⟩ := hw
  have HM := Lib.hid hm
  clear hm
  go_enter Try.func75, Try.ntmps75
  go_wp2
  go_loopw [5, 6] (fun o i wr => ∃ (a' : Option Addr) (c' k j : Nat), k ≤ m ∧ Hid (j = wd * k) ∧ i = .int .i64 (j : Int) ∧ o = .slice a' k c' ∧ Ow .i64 2 w.heap.size wr a' k c' (elemsL xs wd k) ∧ Below w.heap.size w wr) (fun _ i _ => n + 1 - (intOf i).toNat)
  case atStart => exact ⟨_, _, 0, 0, Nat.zero_le _, rfl, rfl, rfl, Ow.empty _ _ _ w (Nat.le_refl _), (Below.refl _ _).alloc (Nat.le_refl _) _⟩
  case round =>
    obtain ⟨a', c', k, j, hk, hj, rfl, rfl, hown, hbel⟩ := hrel
    have hBr := hbel.size
    have hR := h.to hbel
    by_cases hlt : k < m
    · have hj1 : j + wd ≤ n := by
        have h1 : wd * (k + 1) ≤ wd * m := Nat.mul_le_mul_left _ hlt
        rw [Nat.mul_succ] at h1
        have h2 := hj.out
        have h3 := HM.out
        omega
      have hkn : k ≤ n := by
        have h1 : 1 * k ≤ wd * k := Nat.mul_le_mul_right _ hw1
        have h2 := hj.out
        omega
      have hnum := part_num hb.out j wd (by omega)
      have hjs := Lib.hid (show j + wd = wd * (k + 1) by rw [Nat.mul_succ, ← hj.out])
      have hS := Lib.hid (show elemsL xs wd (k + 1) = elemsL xs wd k ++ [num (bpart xs j wd)] by rw [elemsL_succ, ← hj.out])
      go_wp2_with (first | (go_at_call 42; refine (l01Number_any a n c xs j wd _ hR hb (by omega) (by omega) (by omega) (by omega) (by omega)).mono ?_; rintro e w' ⟨rfl, rfl⟩) | (at_builtin; refine wpList_push .i64 _ rfl _ _ 22 rfl w.heap.size 2 _ i0 8 Try.underlying22 hi hz0 hz1 hz2 (by omega) a' k c' _ _ rfl hown rfl (by omega) (by omega) ?_; intro a2 n2 c2 w2 hown2 hbel2))
      have hn2 : n2 = k + 1 := by have e1 := hown2.len; simp [elemsL_length] at e1; omega
      subst hn2
      rw [← hS.out] at hown2
      go_roundw
      case rel => exact ⟨a2, c2, k + 1, j + wd, by omega, hjs, by go_num, rfl, hown2, hbel.trans hbel2⟩
      case measure => simp [intOf]; omega
    · obtain rfl : k = m := by omega
      have hj2 : j = n := by have h2 := hj.out; have h3 := HM.out; omega
      have hj3 : (n : Int) < (j : Int) + (wd : Int) := by omega
      have hj4 : j ≤ 8192 := by omega
      clear hlt hj2
      go_wp2
      go_ret
      exact ⟨_, _, _, rfl, hown, hbel⟩
def rBitElements (p q y : Int) (xs : List Int) : List Int × Int :=
  if fieldB p q y = true ∧ isBits xs = true then (if xs.length % wOf (fsize p q) = 0 then (elemsL xs (wOf (fsize p q)) (xs.length / wOf (fsize p q)), 0) else ([], 5)) else ([], 1)
theorem rBitElements_f {p q y : Int} {xs : List Int} (h : fieldB p q y = false) : rBitElements p q y xs = ([], 1) := by unfold rBitElements; rw [if_neg (by rw [h]; simp)]
theorem rBitElements_b {p q y : Int} {xs : List Int} (h : isBits xs = false) : rBitElements p q y xs = ([], 1) := by unfold rBitElements; rw [if_neg (by rw [h]; simp)]
theorem rBitElements_s {p q y : Int} {xs : List Int} {wd : Nat} (h : fieldB p q y = true) (hb : isBits xs = true) (hw : wOf (fsize p q) = wd) (hm : ¬ xs.length % wd = 0) : rBitElements p q y xs = ([], 5) := by unfold rBitElements; rw [if_pos ⟨h, hb⟩, hw, if_neg hm]
theorem rBitElements_ok1 {p q y : Int} {xs : List Int} {wd : Nat} (h : fieldB p q y = true) (hb : isBits xs = true) (hw : wOf (fsize p q) = wd) (hm : xs.length % wd = 0) : rBitElements p q y xs = (elemsL xs wd (xs.length / wd), 0) := by unfold rBitElements; rw [if_pos ⟨h, hb⟩, hw, if_pos hm]
theorem rBitElements_ok (p q y : Int) (xs : List Int) : (rBitElements p q y xs).1.length ≤ 1000000 ∧ ∀ x ∈ (rBitElements p q y xs).1, fits .i64 x := by
  unfold rBitElements
  split
  · rename_i h
    split
    · have hb := (isBits_iff xs).1 h.2
      have hbd := fsize_bd h.1
      have hw := wOf_bd hbd.1 hbd.2
      refine ⟨?_, elemsL_fits hb.2 _ _ (by omega)⟩
      rw [elemsL_length]
      have := Nat.div_le_self xs.length (wOf (fsize p q))
      omega
    · simp
  · simp
end Go.Proofs.Ytnajjofaijpciaa
