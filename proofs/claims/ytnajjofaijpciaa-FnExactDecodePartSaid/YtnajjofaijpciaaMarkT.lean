/-
  Contracts: the marks of strings in the laws.
  Conditions: numbers from 1 to 10^15.
-/
import Derived.Test.YtnajjofaijpciaaLib
import Derived.Test.YtnajjofaijpciaaL01g
set_option linter.unusedVariables false
namespace Go.Proofs.Ytnajjofaijpciaa
open Go.RowKit Go.G8
/-- The decimal digits of a number ahead of a text. -/
def digT : Nat → Nat → ByteArray → ByteArray
  | 0, _, out => out
  | f + 1, n, out => if n = 0 then out else digT f (n / 10) (strOfNums [48 + (n : Int) % 10] ++ out)
def markT (k : Nat) : ByteArray := ⟨#[109]⟩ ++ digT 20 k ⟨#[]⟩
set_option maxHeartbeats 1000000 in
set_option maxRecDepth 20000 in
theorem markText_any (k : Nat) (w : World) (h0 : 0 < k) (h1 : k ≤ 1000000000000000) :
    Calls Try.prog 39 #[.int .i64 k] w (Ret (.string (markT k)) w) := by
  have d0 : decide ((k : Int) ≤ 0) = false := by simp; omega
  have d1 : decide (k = 0) = false := by simp; omega
  go_enter Try.func39, Try.ntmps39
  go_wp2_with fail
  go_loopw [0, 3] (fun n o wr => ∃ (f j : Nat) (out : ByteArray), n = .int .i64 (j : Int) ∧ o = .string out ∧ j < 10 ^ f ∧ f ≤ 20 ∧ j ≤ k ∧ out.size + f ≤ 20 ∧ Hid (digT f j out = digT 20 k ⟨#[]⟩) ∧ Below w.heap.size w wr) (fun n _ _ => (intOf n).toNat)
  case atStart => exact ⟨20, k, ⟨#[]⟩, rfl, rfl, by omega, by omega, by omega, by decide, rfl, Below.refl _ _⟩
  case round =>
    obtain ⟨f, j, out, rfl, rfl, hj, hf, hjk, hsz, hdig, hbw⟩ := hrel
    by_cases hz : j = 0
    · subst hz
      have ho := Lib.hid (show out = digT 20 k ⟨#[]⟩ by rw [← hdig.out]; cases f <;> simp [digT])
      go_wp2_with fail
      go_ret
      exact ⟨by unfold markT; rw [← ho.out]; rfl, hbw⟩
    · have hx : IntKind.u8.wrap (48 + (j : Int) % 10) = 48 + (j : Int) % 10 := IntWalk.u8_in _ (by omega)
      have hx1 : IntKind.i64.wrap (48 + (j : Int) % 10) = 48 + (j : Int) % 10 := IntWalk.i64_in _ (by omega)
      have hcv : (convert 49 9 (.slice (some ⟨wr.heap.size, 0, none⟩) 1 1)).run Try.prog (wr.alloc (.cells #[.int .u8 (48 + (j : Int) % 10)] 5)) = .ok (.string (strOfNums [48 + (j : Int) % 10])) (wr.alloc (.cells #[.int .u8 (48 + (j : Int) % 10)] 5)) :=
        conv_str (P := Try.prog) (Ow.lit (K := .u8) (E := 5) (B := 0) (xs := [48 + (j : Int) % 10]) wr (Nat.zero_le _) (by simp)) 49 9 5 Try.underlying49 Try.underlying5 Try.underlying9
      have hz1 : (strOfNums [48 + (j : Int) % 10]).size = 1 := by rw [strOfNums_size]; rfl
      have hb : ¬ 9223372036854775807 < (strOfNums [48 + (j : Int) % 10]).size + out.size := by omega
      rcases f with _ | f
      · simp at hj; omega
      go_wp2_with fail
      go_roundw
      case rel =>
        refine ⟨f, j / 10, strOfNums [48 + (j : Int) % 10] ++ out, by simp, rfl, by rw [Nat.pow_succ] at hj; omega, by omega, by omega, ?_, ?_, Below.alloc hbw hbw.size _⟩
        · rw [ByteArray.size_append]; omega
        · refine Lib.hid ?_
          rw [← hdig.out]
          conv => rhs; unfold digT
          rw [if_neg hz]
      case measure => simp [intOf]; omega
end Go.Proofs.Ytnajjofaijpciaa
