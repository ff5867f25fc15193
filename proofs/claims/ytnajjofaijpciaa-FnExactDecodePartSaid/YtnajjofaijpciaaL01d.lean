/-
  Contracts of chapter 1 of the program and of the reference: numbers appended to bit lists.
  Conditions: named at each contract; they are bounds on lengths.
-/
import Derived.Test.YtnajjofaijpciaaL01a
import Derived.Test.YtnajjofaijpciaaBits
set_option linter.unusedVariables false
namespace Go.Proofs.Ytnajjofaijpciaa
open Go.RowKit Go.G8

theorem l01Own_any (a : Option Addr) (n c : Nat) (xs : List Int) (w : World) (h : Rd .i64 w a n xs) (hn : n ≤ 1000000000) :
    Calls Try.prog 92 #[.slice a n c] w (RetRow .i64 2 xs w) := by
  obtain ⟨i0, hi, hz0, hz1, hz2⟩ := info_parts info_int64
  go_enter Try.func92, Try.ntmps92
  go_wp2_with (at_builtin; refine wpList_appendAll .i64 _ rfl _ _ 22 rfl w.heap.size 2 i0 8 Try.underlying22 hi hz0 hz1 hz2 (by omega) _ _ _ [] a n c xs rfl (Ow.empty _ _ _ w (Nat.le_refl _)) rfl (h.to ((Below.refl _ _).alloc (Nat.le_refl _) _)) (by omega) (by simp) ?_; intro a2 n2 c2 w2 hown2 hbel2)
  go_ret
  exact ⟨_, _, _, rfl, hown2, ((Below.refl _ _).alloc (Nat.le_refl _) _).trans hbel2⟩
theorem lowBits_step {ys xs : List Int} {v : Int} {m d : Nat} (h : ys ++ lowBits v (m + 1) = xs ++ lowBits v d) : (ys ++ [v / 2 ^ m % 2]) ++ lowBits v m = xs ++ lowBits v d := by
  rw [← h]; simp [lowBits]
set_option maxHeartbeats 400000 in
theorem appendNumber_any (B : Nat) (a : Option Addr) (n c : Nat) (xs : List Int) (v wd : Int) (w : World) (h : Ow .i64 2 B w a n c xs) (hB : B ≤ w.heap.size) (hn : n ≤ 100000000) (hv : -9223372036854775808 ≤ v ∧ v ≤ 9223372036854775807) (h1 : 0 ≤ wd) (h2 : wd ≤ 64) :
    Calls Try.prog 66 #[.slice a n c, .int .i64 v, .int .i64 wd] w (GrowRow .i64 2 B (xs ++ lowBits v wd.toNat) w) := by
  obtain ⟨d, rfl⟩ := Int.eq_ofNat_of_zero_le h1
  obtain ⟨i0, hi, hz0, hz1, hz2⟩ := info_parts info_int64
  obtain ⟨hv1, hv2⟩ := hv
  go_enter Try.func66, Try.ntmps66
  go_wp2
  go_loopw [0, 7] (fun l k wr => ∃ (a' : Option Addr) (n' c' : Nat) (ys : List Int) (m : Nat), m ≤ d ∧ k = .int .i64 ((m : Int) - 1) ∧ l = .slice a' n' c' ∧ Ow .i64 2 B wr a' n' c' ys ∧ Hid (ys ++ lowBits v m = xs ++ lowBits v d) ∧ n' ≤ n + (d - m) ∧ Below B w wr) (fun _ k _ => (intOf k + 1).toNat)
  case atStart => exact ⟨a, n, c, xs, d, Nat.le_refl _, rfl, rfl, h, rfl, by omega, Below.refl _ _⟩
  case round =>
    obtain ⟨a', n', c', ys, m, hm, rfl, rfl, hown, heq, hn', hbel⟩ := hrel
    have hBr := hbel.size
    rcases m with _ | m
    · go_wp2
      go_ret
      have := heq.out
      simp only [lowBits, List.append_nil] at this
      rw [this] at hown
      exact ⟨_, _, _, rfl, by simpa using hown, hbel⟩
    · have hb := i64_and1 (v / 2 ^ m)
      have e0 : ((m + 1 : Nat) : Int) - 1 = (m : Int) := by omega
      rw [e0]
      clear e0
      go_wp2_with (at_builtin; refine wpList_push .i64 _ rfl _ _ 22 rfl B 2 _ i0 8 Try.underlying22 hi hz0 hz1 hz2 (by omega) a' n' c' ys _ rfl hown rfl (by omega) (by omega) ?_; intro a2 n2 c2 w2 hown2 hbel2)
      go_roundw
      case rel => exact ⟨a2, n2, c2, _, m, by omega, by go_num, rfl, hown2, lowBits_step heq.out, by have e1 := hown2.len; have e2 := hown.len; simp at e1; omega, hbel.trans hbel2⟩
      case measure => simp [intOf]
set_option maxHeartbeats 400000 in
theorem l01Append_any (a : Option Addr) (n c : Nat) (xs : List Int) (v wd : Int) (w : World) (h : Rd .i64 w a n xs) (hn : n ≤ 100000000) (hv : -9223372036854775808 ≤ v ∧ v ≤ 9223372036854775807) (h1 : 0 ≤ wd) (h2 : wd ≤ 64) :
    Calls Try.prog 62 #[.slice a n c, .int .i64 v, .int .i64 wd] w (RetRow .i64 2 (xs ++ lowBits v wd.toNat) w) := by
  obtain ⟨d, rfl⟩ := Int.eq_ofNat_of_zero_le h1
  obtain ⟨i0, hi, hz0, hz1, hz2⟩ := info_parts info_int64
  obtain ⟨hv1, hv2⟩ := hv
  go_enter Try.func62, Try.ntmps62
  go_wp2_with (at_builtin; refine wpList_appendAll .i64 _ rfl _ _ 22 rfl w.heap.size 2 i0 8 Try.underlying22 hi hz0 hz1 hz2 (by omega) _ _ _ [] a n c xs rfl (Ow.empty _ _ _ w (Nat.le_refl _)) rfl (h.to ((Below.refl _ _).alloc (Nat.le_refl _) _)) (by omega) (by simp) ?_; intro a2 n2 c2 w2 hown2 hbel2)
  have hb2 : Below w.heap.size w w2 := ((Below.refl _ _).alloc (Nat.le_refl _) _).trans hbel2
  have hn2 : n2 ≤ n := by have e1 := hown2.len; have e2 := h.len; simp at e1; omega
  clear hbel2
  go_loopw [7, 8] (fun l k wr => ∃ (a' : Option Addr) (n' c' : Nat) (ys : List Int) (m : Nat), m ≤ d ∧ k = .int .i64 ((m : Int) - 1) ∧ l = .slice a' n' c' ∧ Ow .i64 2 w.heap.size wr a' n' c' ys ∧ Hid (ys ++ lowBits v m = xs ++ lowBits v d) ∧ n' ≤ n + (d - m) ∧ Below w.heap.size w wr) (fun _ k _ => (intOf k + 1).toNat)
  case atStart => exact ⟨a2, n2, c2, xs, d, Nat.le_refl _, rfl, rfl, hown2, rfl, by omega, hb2⟩
  case round =>
    clear hown2 hb2 hn2
    obtain ⟨a', n', c', ys, m, hm, rfl, rfl, hown, heq, hn', hbel⟩ := hrel
    have hBr := hbel.size
    rcases m with _ | m
    · go_wp2
      go_ret
      have := heq.out
      simp only [lowBits, List.append_nil] at this
      rw [this] at hown
      exact ⟨_, _, _, rfl, by simpa using hown, hbel⟩
    · have hb := i64_and1 (v / 2 ^ m)
      have e0 : ((m + 1 : Nat) : Int) - 1 = (m : Int) := by omega
      rw [e0]
      clear e0
      go_wp2_with (at_builtin; refine wpList_push .i64 _ rfl _ _ 22 rfl w.heap.size 2 _ i0 8 Try.underlying22 hi hz0 hz1 hz2 (by omega) a' n' c' ys _ rfl hown rfl (by omega) (by omega) ?_; intro a2 n2 c2 w2 hown2 hbel2)
      go_roundw
      case rel => exact ⟨a2, n2, c2, _, m, by omega, by go_num, rfl, hown2, lowBits_step heq.out, by have e1 := hown2.len; have e2 := hown.len; simp at e1; omega, hbel.trans hbel2⟩
      case measure => simp [intOf]
end Go.Proofs.Ytnajjofaijpciaa
