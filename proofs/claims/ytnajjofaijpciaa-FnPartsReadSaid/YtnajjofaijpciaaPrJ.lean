/-
  Contract: a message encoded (some elements, as many as the capacity says).
  Conditions: messages of at most 1000 bytes, capacities of small numbers.
-/
import Derived.Test.YtnajjofaijpciaaMg37
import Derived.Test.YtnajjofaijpciaaMg39
set_option linter.unusedVariables false
namespace Go.Proofs.Ytnajjofaijpciaa
open Go.RowKit Go.G8
/-- Elements and a code: where the code is none, the field is valid and the elements are as many as the capacity. -/
def EncOut (p q y cap : Int) (w : World) (e : Ending) (w' : World) : Prop :=
  ∃ (a : Option Addr) (k c : Nat) (zs : List Int) (code : Int), e = .returned (.tuple #[.slice a k c, .int .i64 code]) ∧ Ow .i64 2 w.heap.size w' a k c zs ∧ (∀ z ∈ zs, fits .i64 z) ∧ (code = 0 → fieldB p q y = true ∧ (k : Int) = cap ∧ 1 ≤ k) ∧ k ≤ 1500 ∧ Below w.heap.size w w'
theorem EncOut.no (p q y cap code : Int) {w w' : World} (hc : code ≠ 0) (hb : Below w.heap.size w w') : EncOut p q y cap w (.returned (.tuple #[.slice none 0 0, .int .i64 code])) w' :=
  ⟨none, 0, 0, [], code, rfl, Ow.nil _ _ _, (fun z hz => by cases hz), (fun e => absurd e hc), by omega, hb⟩
set_option maxHeartbeats 2000000 in
set_option maxRecDepth 20000 in
theorem encodePayload_any (p q y cap : Int) (s : ByteArray) (n : Nat) (w : World) (hs : s.size = n) (hn : n ≤ 1000) (hcap : -100000 ≤ cap ∧ cap ≤ 100000) :
    Calls Try.prog 68 #[.agg #[.int .i64 p, .int .i64 q, .int .i64 y], .string s, .int .i64 cap] w (EncOut p q y cap w) := by
  have HH := Lib.hid (start3 w (.int .i64 p) (.int .i64 q) (.int .i64 y) 36)
  have HIs := Lib.hid (fun w => isField_spec p q y w)
  have HCa := Lib.hid (fun w => l11Capacity_any cap w)
  have HWM := Lib.hid (fun w => writeMessage_any s n w hs hn)
  clear hs
  cases hf : fieldB p q y with
  | false =>
    rw [hf] at HIs
    go_enter Try.func68, Try.ntmps68
    go_wp2_with fail
    obtain ⟨hw0, hlt, d0, d1, d2⟩ := HH.out
    refine (HIs.out _).mono ?_
    rintro e w1 ⟨rfl, hb1⟩
    have hB := bt hw0 hb1
    go_wp2_with fail
    go_ret2
    exact EncOut.no _ _ _ _ _ (by omega) hB
  | true =>
    rw [hf] at HIs
    have hbd := fsize_bd hf
    have HD := Lib.hid (wOf_bd hbd.1 hbd.2)
    have HWd := Lib.hid (fun w => l11Width_any p q y w hf)
    have HF := Lib.hid hf
    clear hbd hf
    by_cases hc : 1 ≤ cap ∧ cap ≤ 1500
    · have hcd : decide (1 ≤ cap ∧ cap ≤ 1500) = true := by rw [decide_eq_true_eq]; exact hc
      rw [hcd] at HCa
      obtain ⟨N, rfl⟩ : ∃ N : Nat, cap = N := ⟨cap.toNat, by omega⟩
      have hN : 1 ≤ N ∧ N ≤ 1500 := by omega
      clear hcd hc hcap
      go_enter Try.func68, Try.ntmps68
      go_wp2_with fail
      obtain ⟨hw0, hlt, d0, d1, d2⟩ := HH.out
      refine (HIs.out _).mono ?_
      rintro e w1 ⟨rfl, hb1⟩
      obtain ⟨hlt, d0, d1, d2⟩ := fld_keep hb1 hlt d0 d1 d2
      have hB := bt hw0 hb1
      clear hb1 hw0
      go_wp2_with fail
      refine (HCa.out _).mono ?_
      rintro e w1' ⟨rfl, rfl⟩
      go_wp2_with fail
      refine (HWd.out _).mono ?_
      obtain ⟨wd, hwd⟩ : ∃ wd, wOf (fsize p q) = wd := ⟨_, rfl⟩
      have hw9 := HD.out
      rw [hwd] at hw9 ⊢
      obtain ⟨hw1, hw2, -⟩ := hw9
      rintro e w3 ⟨rfl, hb3⟩
      replace hB := bt hB hb3
      clear hb3 d0 d1 d2
      go_wp2_with fail
      refine (HWM.out _).mono ?_
      rintro e w4 ⟨a4, k4, c4, zs, code, rfl, ho4, hk4, hz4, hb4⟩
      have ho4' := ho4.more (B' := w.heap.size) hB.size
      replace hB := bt hB hb4
      clear ho4 hb4
      obtain ⟨T, hT⟩ : ∃ T : Nat, wd * N = T := ⟨_, rfl⟩
      have hTb : T ≤ 13500 := by rw [← hT]; exact Nat.le_trans (Nat.mul_le_mul hw2 hN.2) (by omega)
      have hTi : (N : Int) * (wd : Int) = (T : Int) := by rw [← hT, Int.mul_comm]; simp
      have ew : IntKind.i64.wrap ((N : Int) * (wd : Int)) = (T : Int) := (IntWalk.i64_in _ (by omega)).trans hTi
      have HT := Lib.hid hT.symm
      clear hTi hT
      by_cases hcode : code = 0
      · subst hcode
        have h0 : ((0 : Int) != 0) = false := by simp
        by_cases hbig : 8192 < T
        · have hd : decide (8192 < (T : Int)) = true := by rw [decide_eq_true_eq]; omega
          go_wp2_with fail
          go_ret2
          exact EncOut.no _ _ _ _ _ (by omega) hB
        · have hd : decide (8192 < (T : Int)) = false := by rw [decide_eq_false_iff_not]; omega
          by_cases hlong : T < k4
          · have hd2 : decide ((T : Int) < (k4 : Int)) = true := by rw [decide_eq_true_eq]; omega
            go_wp2_with fail
            go_ret2
            exact EncOut.no _ _ _ _ _ (by omega) hB
          · have hd2 : decide ((T : Int) < (k4 : Int)) = false := by rw [decide_eq_false_iff_not]; omega
            have HFi := Lib.hid (fun W (hR : Rd .i64 W a4 k4 zs) => l11Fill_any a4 k4 c4 zs T W hR hz4 (by omega) (by omega))
            have HR := Lib.hid (ho4'.rd (fun z hz => fits_bit (hz4 z hz)))
            go_wp2_with fail
            refine (HFi.out _ HR.out).mono ?_
            rintro e w5 ⟨a5, c5, zs5, rfl, ho5, hz5, hb5⟩
            have hB5 := bt hB hb5
            go_wp2_with fail
            refine (l11Elements_any a5 T c5 zs5 wd N _ (ho5.rd (fun z hz => fits_bit (hz5 z hz))) (Lib.hid hz5) ⟨hw1, hw2⟩ (by omega) HT.out).mono ?_
            rintro e w6 ⟨a6, n6, c6, rfl, ho6, hb6⟩
            have hl6 := ho6.len
            rw [elemsL_length] at hl6
            have hf6 := elemsL_fits hz5 wd N (by omega)
            replace ho6 := ho6.more (B' := w.heap.size) hB5.size
            go_wp2_with fail
            go_ret2
            exact ⟨_, _, _, _, _, rfl, ho6, hf6, (fun _ => ⟨HF.out, by omega, by omega⟩), by omega, bt hB5 hb6⟩
      · have h0 : (code != 0) = true := by simpa using hcode
        go_wp2_with fail
        go_ret2
        exact EncOut.no _ _ _ _ _ (by omega) hB
    · have hcd : decide (1 ≤ cap ∧ cap ≤ 1500) = false := by rw [decide_eq_false_iff_not]; exact hc
      rw [hcd] at HCa
      clear hcd hc hcap
      go_enter Try.func68, Try.ntmps68
      go_wp2_with fail
      obtain ⟨hw0, hlt, d0, d1, d2⟩ := HH.out
      refine (HIs.out _).mono ?_
      rintro e w1 ⟨rfl, hb1⟩
      have hB := bt hw0 hb1
      clear hb1 hw0
      go_wp2_with fail
      refine (HCa.out _).mono ?_
      rintro e w1' ⟨rfl, rfl⟩
      go_wp2_with fail
      go_ret2
      exact EncOut.no _ _ _ _ _ (by omega) hB
end Go.Proofs.Ytnajjofaijpciaa
