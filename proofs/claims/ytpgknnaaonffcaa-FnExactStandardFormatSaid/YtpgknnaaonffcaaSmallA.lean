/-
  The laws FnExactConstants, FnExactMessageParity, FnExactStandardFormat hold at every input.
  Conditions: none.
-/
import Derived.Test.YtpgknnaaonffcaaLib
import Derived.Test.YtpgknnaaonffcaaBits
set_option linter.unusedVariables false
namespace Go.Proofs.Ytpgknnaaonffcaa
open Go.RowKit Go.G8

theorem law_FnExactConstants (w : World) : Calls Try.prog 3 #[] w (Ret (.bool true) w) := by
  go_enter Try.func3, Try.ntmps3
  go_wp2
  go_ret
  exact ⟨rfl, Below.refl _ _⟩

def parity (l : List Int) : Int := l.foldl (fun n x => bits .xor .u8 n x) 0
theorem parity_snoc (l : List Int) (x : Int) : parity (l ++ [x]) = bits .xor .u8 (parity l) x := by simp [parity]
theorem u8_bits_bd (op : BinOp) (a b : Int) : 0 ≤ bits op .u8 a b ∧ bits op .u8 a b ≤ 255 := by
  cases op <;> simp only [bits, IntKind.wrap_u8] <;> omega
theorem parity_bd (l : List Int) : 0 ≤ parity l ∧ parity l ≤ 255 := by
  rcases List.eq_nil_or_concat l with rfl | ⟨ys, b, rfl⟩
  · decide
  · rw [List.concat_eq_append, parity_snoc]; exact u8_bits_bd _ _ _

theorem specMessageParity_any (s : ByteArray) (w : World) (hs : s.size ≤ 1000000000) :
    Calls Try.prog 15 #[.string s] w (RetS (.int .i64 (parity (strI s))) w) := by
  have HS := Lib.hid (strI_length s)
  go_enter Try.func15, Try.ntmps15
  go_wp2
  go_loop [3, 4] (fun v i => ∃ k : Nat, k ≤ s.size ∧ i = .int .i64 k ∧ v = .int .u8 (parity ((strI s).take k))) (fun _ i => s.size - (intOf i).toNat)
  case atStart => exact ⟨0, Nat.zero_le _, rfl, rfl⟩
  case round =>
    obtain ⟨k, hk, rfl, rfl⟩ := hrel
    obtain ⟨hp1, hp2⟩ := parity_bd ((strI s).take k)
    by_cases hlt : k < s.size
    · obtain ⟨x, hsx, hx, hx1, hx2⟩ := str_at s k hlt
      have hT := Lib.hid (take_snoc hx.out)
      go_wp2
      go_round
      case rel => exact ⟨k + 1, by omega, by go_num, by rw [hT.out, parity_snoc]⟩
      case measure => simp [intOf]; omega
    · obtain rfl : k = s.size := by omega
      rw [List.take_of_length_le (by rw [HS.out]; exact Nat.le_refl _)] at *
      go_wp2
      go_ret
      exact ⟨rfl, rfl⟩
theorem implMessageParity_any (s : ByteArray) (w : World) (hs : s.size ≤ 1000000000) :
    Calls Try.prog 16 #[.string s] w (RetS (.int .i64 (parity (strI s))) w) := by
  have HS := Lib.hid (strI_length s)
  go_enter Try.func16, Try.ntmps16
  go_wp2
  go_loop [3, 4] (fun v i => ∃ k : Nat, k ≤ s.size ∧ i = .int .i64 k ∧ v = .int .u8 (parity ((strI s).take k))) (fun _ i => s.size - (intOf i).toNat)
  case atStart => exact ⟨0, Nat.zero_le _, rfl, rfl⟩
  case round =>
    obtain ⟨k, hk, rfl, rfl⟩ := hrel
    obtain ⟨hp1, hp2⟩ := parity_bd ((strI s).take k)
    by_cases hlt : k < s.size
    · obtain ⟨x, hsx, hx, hx1, hx2⟩ := str_at s k hlt
      have hT := Lib.hid (take_snoc hx.out)
      go_wp2
      go_round
      case rel => exact ⟨k + 1, by omega, by go_num, by rw [hT.out, parity_snoc]⟩
      case measure => simp [intOf]; omega
    · obtain rfl : k = s.size := by omega
      rw [List.take_of_length_le (by rw [HS.out]; exact Nat.le_refl _)] at *
      go_wp2
      go_ret
      exact ⟨rfl, rfl⟩
theorem law_FnExactMessageParity (s0 : ByteArray) (w : World) (h0 : s0.size ≤ maxLen) : Calls Try.prog 4 #[.string s0] w (Ret (.bool true) w) := by
  by_cases hbig : 1048576 < s0.size
  · go_enter Try.func4, Try.ntmps4
    go_wp2
    go_ret
    exact ⟨rfl, Below.refl _ _⟩
  · have hs : s0.size ≤ 1000000000 := by omega
    go_enter Try.func4, Try.ntmps4
    go_wp2_with (first | (go_at_call 15; refine (specMessageParity_any _ _ hs).mono ?_; rintro e w' ⟨rfl, rfl⟩) | (go_at_call 16; refine (implMessageParity_any _ _ hs).mono ?_; rintro e w' ⟨rfl, rfl⟩))
    go_ret
    exact ⟨rfl, Below.refl _ _⟩
theorem specStandardFormat_any (w : World) : Calls Try.prog 17 #[] w (Ret (.agg #[.int .i64 5, .int .i64 15, .int .i64 1335]) w) := by
  go_enter Try.func17, Try.ntmps17
  go_wp2
  refine bodyPost_ret (v := .agg #[.int .i64 5, .int .i64 15, .int .i64 1335]) (by simp [results, Try.results17, go_sem]) rfl ⟨rfl, ?_⟩
  (repeat' (first | exact Below.refl _ _ | exact Nat.le_refl _ | omega | (refine Below.setCell ?_ ?_ _) | (refine Below.alloc ?_ ?_ _) | (refine Below.drew ?_) | (simp; done) | (simp; omega)))
theorem implStandardFormat_any (w : World) : Calls Try.prog 18 #[] w (Ret (.agg #[.int .i64 5, .int .i64 15, .int .i64 1335]) w) := by
  go_enter Try.func18, Try.ntmps18
  go_wp2
  refine bodyPost_ret (v := .agg #[.int .i64 5, .int .i64 15, .int .i64 1335]) (by simp [results, Try.results18, go_sem]) rfl ⟨rfl, ?_⟩
  (repeat' (first | exact Below.refl _ _ | exact Nat.le_refl _ | omega | (refine Below.setCell ?_ ?_ _) | (refine Below.alloc ?_ ?_ _) | (refine Below.drew ?_) | (simp; done) | (simp; omega)))
theorem law_FnExactStandardFormat (w : World) : Calls Try.prog 5 #[] w (Ret (.bool true) w) := by
  go_enter Try.func5, Try.ntmps5
  go_wp2_with fail
  refine (specStandardFormat_any _).mono ?_
  rintro e w1 ⟨rfl, hb1⟩
  go_wp2_with fail
  refine (implStandardFormat_any _).mono ?_
  rintro e w2 ⟨rfl, hb2⟩
  obtain ⟨hc2, hf2⟩ := bcell hb2
  have hz2 : w1.heap.size < w2.heap.size := by have := hb2.size; simp at this; omega
  have HB := Lib.hid ((hb1.alloc hb1.size _).trans (hb2.mono (by simp; have := hb1.size; omega)))
  have hz1 := hb1.size
  clear hb1 hb2
  go_wp2_with fail
  go_in
  go_wp2
  go_ret
  refine ⟨rfl, ?_⟩
  refine Below.alloc (Below.alloc (Below.alloc HB.out ?_ _) ?_ _) ?_ _ <;> (first | omega | (simp; omega))
end Go.Proofs.Ytpgknnaaonffcaa
