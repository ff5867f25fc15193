/-
  The laws FnExactConstants, FnExactMessageParity, FnExactStandardFormat hold at every input.
  Conditions: none.
-/
import Derived.Test.YtnajjofaijpciaaDoorLib
import Derived.Test.YtnajjofaijpciaaDoorBits
set_option linter.unusedVariables false
namespace Go.Proofs.YtnajjofaijpciaaDoor
open Go.RowKit Go.G8

def parity (l : List Int) : Int := l.foldl (fun n x => bits .xor .u8 n x) 0
theorem parity_snoc (l : List Int) (x : Int) : parity (l ++ [x]) = bits .xor .u8 (parity l) x := by simp [parity]
theorem u8_bits_bd (op : BinOp) (a b : Int) : 0 ≤ bits op .u8 a b ∧ bits op .u8 a b ≤ 255 := by
  cases op <;> simp only [bits, IntKind.wrap_u8] <;> omega
theorem parity_bd (l : List Int) : 0 ≤ parity l ∧ parity l ≤ 255 := by
  rcases List.eq_nil_or_concat l with rfl | ⟨ys, b, rfl⟩
  · decide
  · rw [List.concat_eq_append, parity_snoc]; exact u8_bits_bd _ _ _

theorem specMessageParity_any (s : ByteArray) (w : World) (hs : s.size ≤ 1000000000) :
    Calls Tryd.prog 11 #[.string s] w (RetS (.int .i64 (parity (strI s))) w) := by
  have HS := Lib.hid (strI_length s)
  go_enter Tryd.func11, Tryd.ntmps11
  go_wp2
  go_loop [3, 4] (fun v i => ∃ k : Nat, k ≤ s.size ∧ i = .int .i64 k ∧ v = .int .u8 (parity ((strI s).take k))) (fun _ i => s.size - (intOf i).toNat)
  case atStart => exact ⟨0, Nat.zero_le _, rfl, rfl⟩
  case round =>
    obtain ⟨k, hk, rfl, rfl⟩ := hrel
    obtain ⟨hp1, hp2⟩ := parity_bd ((strI s).take k)
    by_cases hlt : k < s.size
    · obtain ⟨x, hsx, hx, hx1, hx2⟩ := str_at s k hlt
      have hT := Lib.hid (take_snoc hx.out)
      go_wp2
      go_round
      case rel => exact ⟨k + 1, by omega, by go_num, by rw [hT.out, parity_snoc]⟩
      case measure => simp [intOf]; omega
    · obtain rfl : k = s.size := by omega
      rw [List.take_of_length_le (by rw [HS.out]; exact Nat.le_refl _)] at *
      go_wp2
      go_ret
      exact ⟨rfl, rfl⟩
theorem implMessageParity_any (s : ByteArray) (w : World) (hs : s.size ≤ 1000000000) :
    Calls Tryd.prog 16 #[.string s] w (RetS (.int .i64 (parity (strI s))) w) := by
  have HS := Lib.hid (strI_length s)
  go_enter Tryd.func16, Tryd.ntmps16
  go_wp2
  go_loop [3, 4] (fun v i => ∃ k : Nat, k ≤ s.size ∧ i = .int .i64 k ∧ v = .int .u8 (parity ((strI s).take k))) (fun _ i => s.size - (intOf i).toNat)
  case atStart => exact ⟨0, Nat.zero_le _, rfl, rfl⟩
  case round =>
    obtain ⟨k, hk, rfl, rfl⟩ := hrel
    obtain ⟨hp1, hp2⟩ := parity_bd ((strI s).take k)
    by_cases hlt : k < s.size
    · obtain ⟨x, hsx, hx, hx1, hx2⟩ := str_at s k hlt
      have hT := Lib.hid (take_snoc hx.out)
      go_wp2
      go_round
      case rel => exact ⟨k + 1, by omega, by go_num, by rw [hT.out, parity_snoc]⟩
      case measure => simp [intOf]; omega
    · obtain rfl : k = s.size := by omega
      rw [List.take_of_length_le (by rw [HS.out]; exact Nat.le_refl _)] at *
      go_wp2
      go_ret
      exact ⟨rfl, rfl⟩
end Go.Proofs.YtnajjofaijpciaaDoor
