/-
  Contracts: inverses, powers and logarithms of elements, by the reference and by the program.
  Conditions: none.
-/
import Derived.Test.YtjdnaoidlblciaaFieldPow
set_option linter.unusedVariables false
namespace Go.Proofs.Ytjdnaoidlblciaa
open Go.RowKit Go.G8
def rInv (p q y a : Int) : Int × Int := if codeF p q y [a] = 0 then (if a = 0 then (0, 5) else (powG (fMul p q y) 40 1 a (fsize p q - 2).toNat, 0)) else (0, codeF p q y [a])
theorem rInv_bad {p q y a : Int} (h : codeF p q y [a] ≠ 0) : rInv p q y a = (0, codeF p q y [a]) := by unfold rInv; rw [if_neg h]
theorem rInv_zero {p q y a : Int} (h : codeF p q y [a] = 0) (h0 : a = 0) : rInv p q y a = (0, 5) := by unfold rInv; rw [if_pos h, if_pos h0]
theorem rInv_ok {p q y a : Int} (h : codeF p q y [a] = 0) (h0 : ¬ a = 0) : rInv p q y a = (powG (fMul p q y) 40 1 a (fsize p q - 2).toNat, 0) := by unfold rInv; rw [if_pos h, if_neg h0]
def rLog (p q y a : Int) : Int × Int := if codeF p q y [a] = 0 then (if a = 0 then (0, 5) else (logT (tF p q y) (fN p q) a.toNat, 0)) else (0, codeF p q y [a])
theorem rLog_bad {p q y a : Int} (h : codeF p q y [a] ≠ 0) : rLog p q y a = (0, codeF p q y [a]) := by unfold rLog; rw [if_neg h]
theorem rLog_zero {p q y a : Int} (h : codeF p q y [a] = 0) (h0 : a = 0) : rLog p q y a = (0, 5) := by unfold rLog; rw [if_pos h, if_pos h0]
theorem rLog_ok {p q y a : Int} (h : codeF p q y [a] = 0) (h0 : ¬ a = 0) : rLog p q y a = (logT (tF p q y) (fN p q) a.toNat, 0) := by unfold rLog; rw [if_pos h, if_neg h0]
def rPow (p q y a n : Int) : Int × Int := if codeF p q y [a] = 0 then (if 0 ≤ n ∧ n ≤ 1000000 then (powG (fMul p q y) 40 1 a n.toNat, 0) else (0, 2)) else (0, codeF p q y [a])
theorem rPow_bad {p q y a n : Int} (h : codeF p q y [a] ≠ 0) : rPow p q y a n = (0, codeF p q y [a]) := by unfold rPow; rw [if_neg h]
theorem rPow_out {p q y a n : Int} (h : codeF p q y [a] = 0) (h0 : ¬ (0 ≤ n ∧ n ≤ 1000000)) : rPow p q y a n = (0, 2) := by unfold rPow; rw [if_pos h, if_neg h0]
theorem rPow_ok {p q y a n : Int} (h : codeF p q y [a] = 0) (h0 : 0 ≤ n ∧ n ≤ 1000000) : rPow p q y a n = (powG (fMul p q y) 40 1 a n.toNat, 0) := by unfold rPow; rw [if_pos h, if_pos h0]
theorem pow_none (M : Int → Int → Int) (a : Int) : powG M 40 1 a (0 : Int).toNat = 1 := powG_end M 40 1 a
theorem pow_nul {p q y : Int} {n : Nat} (h1 : n < 2 ^ 40) (h0 : n ≠ 0) : powG (fMul p q y) 40 1 0 n = 0 := powG_zero (fun x => fMul_right0 p q y x) 40 n 1 h1 h0

theorem keep3 {wr w1 w2 : World} {h : Nat} {x2 x3 x4 : Value} (hb1 : Below wr.heap.size wr w1) (hb2 : Below w1.heap.size w1 w2) (hlt : h < wr.heap.size) (c2 : wr.cell? ⟨h, 0, none⟩ = some x2) (c3 : wr.cell? ⟨h, 1, none⟩ = some x3) (c4 : wr.cell? ⟨h, 2, none⟩ = some x4) :
    w2.cell? ⟨h, 0, none⟩ = some x2 ∧ w2.cell? ⟨h, 1, none⟩ = some x3 ∧ w2.cell? ⟨h, 2, none⟩ = some x4 := by
  obtain ⟨e2, e3, e4⟩ := cell3 hb1 hlt c2 c3 c4
  exact cell3 hb2 (Nat.lt_of_lt_of_le hlt hb1.size) e2 e3 e4
theorem fieldPow_impl (p q y a n : Int) (w : World) (ha : -9223372036854775808 ≤ a ∧ a ≤ 9223372036854775807) :
    Calls Try.prog 24 #[.agg #[.int .i64 p, .int .i64 q, .int .i64 y], .int .i64 a, .int .i64 n] w (RetB (.tuple #[.int .i64 (rPow p q y a n).1, .int .i64 (rPow p q y a n).2]) w) := by
  have HH := Lib.hid (two_blocks w #[.int .i64 p, .int .i64 q, .int .i64 y] #[.int .i64 a] 26 2 [a] rfl (by simp) (fits1 ha))
  have HA := Lib.hid ha
  clear ha
  by_cases hz : codeF p q y [a] = 0
  · by_cases hn : 0 ≤ n ∧ n ≤ 1000000
    · by_cases h1 : n = 0
      · subst h1
        have hr := Lib.hid ((rPow_ok hz hn).trans (by rw [pow_none]))
        have HZ := Lib.hid hz
        clear hz
        go_enter Try.func24, Try.ntmps24
        go_wp2_with fail
        obtain ⟨hw1, hrd, hcl, hlt⟩ := HH.out
        clear hcl
        refine (elements_any p q y _ 1 1 [a] _ (by simpa using hrd) (by omega)).mono ?_
        unfold ElemRes
        rw [HZ.out]
        rintro e w1 ⟨o, rfl, hb1, hG⟩
        have hB := bt hw1 hb1
        obtain ⟨G, rfl, hG1, htab⟩ := hG rfl
        go_wp2_with fail
        refine (inRange_yes 0 0 1000000 _ hn).mono ?_
        rintro e w' ⟨rfl, rfl⟩
        go_wp2_with fail
        go_ret2
        exact ⟨ret2_r hr.out, hB⟩
      · obtain ⟨m, rfl⟩ := Int.eq_ofNat_of_zero_le hn.1
        have hnb : ((m : Int) == 0) = false := by rw [beq_eq_false_iff_ne]; exact h1
        have hm0 : m ≠ 0 := by omega
        by_cases h0 : a = 0
        · subst h0
          have hr := Lib.hid ((rPow_ok hz hn).trans (by rw [show ((m : Int)).toNat = m from Int.toNat_natCast m, pow_nul (by omega) hm0]))
          have HZ := Lib.hid hz
          clear hz h1 hm0
          go_enter Try.func24, Try.ntmps24
          go_wp2_with fail
          obtain ⟨hw1, hrd, hcl, hlt⟩ := HH.out
          clear hcl
          refine (elements_any p q y _ 1 1 [0] _ (by simpa using hrd) (by omega)).mono ?_
          unfold ElemRes
          rw [HZ.out]
          rintro e w1 ⟨o, rfl, hb1, hG⟩
          have hB := bt hw1 hb1
          obtain ⟨G, rfl, hG1, htab⟩ := hG rfl
          go_wp2_with fail
          refine (inRange_yes m 0 1000000 _ hn).mono ?_
          rintro e w' ⟨rfl, rfl⟩
          go_wp2_with fail
          go_ret2
          exact ⟨ret2_r hr.out, hB⟩
        · have hab : (a == 0) = false := by rw [beq_eq_false_iff_ne]; exact h0
          have hv := Lib.hid (codeF_zero hz)
          have F := field_facts hv.out.1
          obtain ⟨i, hi, ea, la⟩ := F.elem hv.out.2 h0
          have hr := Lib.hid ((rPow_ok hz hn).trans (by rw [show ((m : Int)).toNat = m from Int.toNat_natCast m, ea, F.pow i m (by omega)]))
          have HZ := Lib.hid hz
          have hi2 : i ≤ 1019 := by have := F.small; omega
          have him : i * m ≤ 1019 * 1000000 := Nat.mul_le_mul hi2 (by omega)
          have HF := Lib.hid F
          have HL := Lib.hid la
          have ha0 := hv.out.2.1
          have ha1 : a < 1021 := by have := hv.out.2.2; have := (fsize_bd hv.out.1).2; omega
          obtain ⟨an, rfl⟩ := Int.eq_ofNat_of_zero_le ha0
          have b1 : (0 : Int) ≤ (an : Int) := ha0
          clear hz h1 hm0 ea la F h0 ha0 hi
          go_enter Try.func24, Try.ntmps24
          go_wp2_with fail
          obtain ⟨hw1, hrd, hcl, hlt⟩ := HH.out
          clear hcl
          refine (elements_any p q y _ 1 1 [(an : Int)] _ (by simpa using hrd) (by omega)).mono ?_
          unfold ElemRes
          rw [HZ.out]
          rintro e w1 ⟨o, rfl, hb1, hG⟩
          have hB := bt hw1 hb1
          obtain ⟨G, rfl, hG1, htab⟩ := hG rfl
          have c1 := htab.log_ (i := an) (by omega)
          rw [show logT (tF p q y) (fN p q) an = (i : Int) from HL.out] at c1
          go_wp2_with fail
          refine (inRange_yes m 0 1000000 _ hn).mono ?_
          rintro e w' ⟨rfl, rfl⟩
          go_wp2_with fail
          have hcp := calcPower G (i * m) p q y _ w1 hv.out.1 (by omega) htab
          rw [Int.natCast_mul] at hcp
          refine hcp.mono ?_
          rintro e w2 ⟨rfl, hq2⟩
          replace hq2 := below_q hq2
          go_wp2_with fail
          go_ret2
          exact ⟨ret2_r hr.out, bt hB hq2⟩
    · have hr := Lib.hid (rPow_out hz hn)
      have HZ := Lib.hid hz
      clear hz
      go_enter Try.func24, Try.ntmps24
      go_wp2_with fail
      obtain ⟨hw1, hrd, hcl, hlt⟩ := HH.out
      clear hcl
      refine (elements_any p q y _ 1 1 [a] _ (by simpa using hrd) (by omega)).mono ?_
      unfold ElemRes
      rw [HZ.out]
      rintro e w1 ⟨o, rfl, hb1, hG⟩
      have hB := bt hw1 hb1
      obtain ⟨G, rfl, hG1, htab⟩ := hG rfl
      go_wp2_with fail
      refine (inRange_no n 0 1000000 _ hn).mono ?_
      rintro e w' ⟨rfl, rfl⟩
      go_wp2_with fail
      go_ret2
      exact ⟨ret2_r hr.out, hB⟩
  · have hr := Lib.hid (rPow_bad (n := n) hz)
    obtain ⟨cd, hcd⟩ : ∃ cd, codeF p q y [a] = cd := ⟨_, rfl⟩
    have HZ := Lib.hid hcd
    rw [hcd] at hz hr
    clear hcd
    have hne : (cd != 0) = true := by rw [bne_iff_ne]; exact hz
    have hnb : (cd == 0) = false := by rw [beq_eq_false_iff_ne]; exact hz
    clear hz
    go_enter Try.func24, Try.ntmps24
    go_wp2_with fail
    obtain ⟨hw1, hrd, hcl, hlt⟩ := HH.out
    clear hcl
    refine (elements_any p q y _ 1 1 [a] _ (by simpa using hrd) (by omega)).mono ?_
    unfold ElemRes
    rw [HZ.out]
    rintro e w1 ⟨o, rfl, hb1, hG⟩
    have hB := bt hw1 hb1
    clear hG hrd
    go_wp2_with fail
    go_ret2
    exact ⟨ret2_r hr.out, hB⟩
theorem gen_seq {p q y : Int} (h : fieldB p q y = true) : genR q y = seqT (tF p q y) 1 := by
  rcases field_cases h with ⟨rfl, h1, h2, h3, h4, h5⟩ | ⟨P, rfl, rfl, hP, hy, hrun⟩
  · show y = tP p y 1
    exact (tP_one ⟨by omega, h4⟩).symm
  · have hq : ¬ (P : Int) = 1 := by omega
    unfold genR tF
    rw [if_neg hq, if_neg hq, Int.toNat_natCast]
    exact (tB_one (by omega)).symm
theorem fieldLog_impl (p q y a : Int) (w : World) (ha : -9223372036854775808 ≤ a ∧ a ≤ 9223372036854775807) :
    Calls Try.prog 23 #[.agg #[.int .i64 p, .int .i64 q, .int .i64 y], .int .i64 a] w (RetB (.tuple #[.int .i64 (rLog p q y a).1, .int .i64 (rLog p q y a).2]) w) := by
  have HH := Lib.hid (two_blocks w #[.int .i64 p, .int .i64 q, .int .i64 y] #[.int .i64 a] 26 2 [a] rfl (by simp) (fits1 ha))
  have HA := Lib.hid ha
  clear ha
  by_cases hz : codeF p q y [a] = 0
  · by_cases h0 : a = 0
    · have hr := Lib.hid (rLog_zero hz h0)
      have HZ := Lib.hid hz
      have hab : (a == 0) = true := by rw [beq_iff_eq]; exact h0
      clear hz h0
      go_enter Try.func23, Try.ntmps23
      go_wp2_with fail
      obtain ⟨hw1, hrd, hcl, hlt⟩ := HH.out
      clear hcl
      refine (elements_any p q y _ 1 1 [a] _ (by simpa using hrd) (by omega)).mono ?_
      unfold ElemRes
      rw [HZ.out]
      rintro e w1 ⟨o, rfl, hb1, hG⟩
      have hB := bt hw1 hb1
      obtain ⟨G, rfl, hG1, htab⟩ := hG rfl
      go_wp2_with fail
      go_ret2
      exact ⟨ret2_r hr.out, hB⟩
    · have hv := Lib.hid (codeF_zero hz)
      have F := field_facts hv.out.1
      obtain ⟨i, hi, ea, la⟩ := F.elem hv.out.2 h0
      have hr := Lib.hid ((rLog_ok hz h0).trans (by rw [la]))
      have HZ := Lib.hid hz
      have HF := Lib.hid F
      have hab : (a == 0) = false := by rw [beq_eq_false_iff_ne]; exact h0
      have hi2 : i ≤ 1019 := by have := F.small; omega
      have HL := Lib.hid la
      have HE := Lib.hid ea
      have HI := Lib.hid hi
      have ha0 := hv.out.2.1
      have ha1 : a < 1021 := by have := hv.out.2.2; have := (fsize_bd hv.out.1).2; omega
      obtain ⟨an, rfl⟩ := Int.eq_ofNat_of_zero_le ha0
      clear hz h0 ea la F hi
      go_enter Try.func23, Try.ntmps23
      go_wp2_with fail
      obtain ⟨hw1, hrd, hcl, hlt⟩ := HH.out
      clear hcl
      refine (elements_any p q y _ 1 1 [(an : Int)] _ (by simpa using hrd) (by omega)).mono ?_
      unfold ElemRes
      rw [HZ.out]
      rintro e w1 ⟨o, rfl, hb1, hG⟩
      have hB := bt hw1 hb1
      obtain ⟨G, rfl, hG1, htab⟩ := hG rfl
      have c1 := htab.log_ (i := an) (by omega)
      rw [show logT (tF p q y) (fN p q) an = (i : Int) from HL.out] at c1
      go_wp2_with fail
      go_ret2
      exact ⟨ret2_r hr.out, hB⟩
  · have hr := Lib.hid (rLog_bad hz)
    obtain ⟨cd, hcd⟩ : ∃ cd, codeF p q y [a] = cd := ⟨_, rfl⟩
    have HZ := Lib.hid hcd
    rw [hcd] at hz hr
    clear hcd
    have hne : (cd != 0) = true := by rw [bne_iff_ne]; exact hz
    have hnb : (cd == 0) = false := by rw [beq_eq_false_iff_ne]; exact hz
    clear hz
    go_enter Try.func23, Try.ntmps23
    go_wp2_with fail
    obtain ⟨hw1, hrd, hcl, hlt⟩ := HH.out
    clear hcl
    refine (elements_any p q y _ 1 1 [a] _ (by simpa using hrd) (by omega)).mono ?_
    unfold ElemRes
    rw [HZ.out]
    rintro e w1 ⟨o, rfl, hb1, hG⟩
    have hB := bt hw1 hb1
    clear hG hrd
    go_wp2_with fail
    go_ret2
    exact ⟨ret2_r hr.out, hB⟩
end Go.Proofs.Ytjdnaoidlblciaa
