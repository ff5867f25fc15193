/-
  Contract of the filling of the tables of a field of bits modulo a polynomial.
  Conditions: between 3 and 8 bits.
-/
import Derived.Test.YtnajjofaijpciaaCalc
import Derived.Test.YtnajjofaijpciaaGf
set_option linter.unusedVariables false
namespace Go.Proofs.Ytnajjofaijpciaa
open Go.RowKit Go.G8

theorem i64_xor_nat (a b : Nat) (ha : a < 4294967296) (hb : b < 4294967296) : bits .xor .i64 (a : Int) (b : Int) = ((a ^^^ b : Nat) : Int) := by
  show IntKind.i64.wrap ((BitVec.ofInt 64 (a : Int) ^^^ BitVec.ofInt 64 (b : Int)).toNat : Int) = _
  rw [BitVec.toNat_xor, BitVec.toNat_ofInt, BitVec.toNat_ofInt]
  have e1 : ((a : Int) % ((2 ^ 64 : Nat) : Int)).toNat = a := by omega
  have e2 : ((b : Int) % ((2 ^ 64 : Nat) : Int)).toNat = b := by omega
  have h := Nat.xor_lt_two_pow (n := 32) ha hb
  rw [e1, e2, IntKind.wrap_i64]
  omega
theorem i64_and_nat (a b : Nat) (ha : a < 4294967296) (hb : b < 4294967296) : bits .and .i64 (a : Int) (b : Int) = ((a &&& b : Nat) : Int) := by
  show IntKind.i64.wrap ((BitVec.ofInt 64 (a : Int) &&& BitVec.ofInt 64 (b : Int)).toNat : Int) = _
  rw [BitVec.toNat_and, BitVec.toNat_ofInt, BitVec.toNat_ofInt]
  have e1 : ((a : Int) % ((2 ^ 64 : Nat) : Int)).toNat = a := by omega
  have e2 : ((b : Int) % ((2 ^ 64 : Nat) : Int)).toNat = b := by omega
  have h : a &&& b < 2 ^ 32 := Nat.lt_of_le_of_lt Nat.and_le_left ha
  rw [e1, e2, IntKind.wrap_i64]
  omega
theorem and_pow_no (a P : Nat) (h : a.testBit P = false) : a &&& 2 ^ P = 0 := by
  apply Nat.eq_of_testBit_eq
  intro i
  rw [Nat.testBit_and, Nat.testBit_two_pow, Nat.zero_testBit]
  by_cases e : P = i
  · subst e; simp [h]
  · simp [e]
theorem and_pow_yes (a P : Nat) (h : a.testBit P = true) : a &&& 2 ^ P ≠ 0 := by
  intro e
  have := congrArg (fun n => Nat.testBit n P) e
  simp [Nat.testBit_and, h] at this
def tB (P poly : Nat) (x : Int) : Int := (Gf.xt P poly x.toNat : Int)
theorem tB_range {P poly N : Nat} (h : Gf.Good P poly) (hN : N + 1 = 2 ^ P) : ∀ x, 0 ≤ x → x < (N : Int) + 1 → 0 ≤ tB P poly x ∧ tB P poly x < (N : Int) + 1 := by
  intro x h1 h2
  have := Gf.xt_lt h (a := x.toNat) (by omega)
  unfold tB
  omega
theorem tB_seq (P poly n : Nat) : seqT (tB P poly) n = ((Gf.xts P poly n 1 : Nat) : Int) := by
  induction n with
  | zero => rfl
  | succ n ih => rw [seqT, ih]; rfl
theorem binStep (bc bf g P poly N : Nat) (x : Int) (w : World) (hP : 3 ≤ P ∧ P ≤ 8) (hgd : Gf.Good P poly) (hNP : N + 1 = 2 ^ P) (hx : 0 ≤ x ∧ x < (N : Int) + 1) (hc : w.cell? ⟨bc, 0, none⟩ = some (.pointer (some ⟨g, 0, none⟩))) (hs : w.cell? ⟨g, 1, none⟩ = some (.int .i64 ((N : Int) + 1))) (hp : w.cell? ⟨bf, 2, none⟩ = some (.int .i64 (poly : Int))) :
    Calls Try.prog 82 #[.int .i64 x, .pointer (some ⟨bc, 0, none⟩), .pointer (some ⟨bf, 0, none⟩)] w (RetS (.int .i64 (tB P poly x)) w) := by
  obtain ⟨hx1, hx2⟩ := hx
  obtain ⟨a, rfl⟩ := Int.eq_ofNat_of_zero_le hx1
  have hN : N ≤ 255 := by
    have k2 : 2 ^ P ≤ 2 ^ 8 := Nat.pow_le_pow_right (by decide) hP.2
    omega
  have hpoly : poly < 512 := by
    have k2 : 2 ^ (P + 1) ≤ 2 ^ 9 := Nat.pow_le_pow_right (by decide) (by omega)
    have := hgd.2
    omega
  have hR := Lib.hid (show tB P poly (a : Int) = ((if 2 * a < 2 ^ P then 2 * a else (2 * a) ^^^ poly : Nat) : Int) from rfl)
  have ha : a ≤ 255 := by omega
  have hand : bits .and .i64 ((a : Int) * 2) ((N : Int) + 1) = ((2 * a &&& 2 ^ P : Nat) : Int) := by
    have e1 : (a : Int) * 2 = ((2 * a : Nat) : Int) := by omega
    have e2 : (N : Int) + 1 = ((2 ^ P : Nat) : Int) := by omega
    rw [e1, e2, i64_and_nat _ _ (by omega) (by omega)]
  by_cases h1 : 2 * a < 2 ^ P
  · have hand0 : bits .and .i64 ((a : Int) * 2) ((N : Int) + 1) = 0 := by rw [hand, and_pow_no _ _ (Nat.testBit_lt_two_pow h1)]; rfl
    rw [if_pos h1] at hR
    clear hand h1
    go_enter Try.func82, Try.ntmps82
    go_wp2
    go_ret
    exact ⟨ret_int (by rw [hR.out]; omega), rfl⟩
  · rw [if_neg h1] at hR
    have hand1 : (bits .and .i64 ((a : Int) * 2) ((N : Int) + 1) != 0) = true := by
      have := and_pow_yes (2 * a) P (Gf.top_bit (P := P) (by omega) (by rw [Nat.pow_succ]; omega))
      rw [hand, bne_iff_ne]
      omega
    have hxor : bits .xor .i64 ((a : Int) * 2) (poly : Int) = (((2 * a) ^^^ poly : Nat) : Int) := by
      have e1 : (a : Int) * 2 = ((2 * a : Nat) : Int) := by omega
      rw [e1, i64_xor_nat _ _ (by omega) (by omega)]
    clear hand h1
    go_enter Try.func82, Try.ntmps82
    go_wp2
    go_ret
    exact ⟨ret_int hR.out.symm, rfl⟩

set_option maxHeartbeats 1000000 in
theorem fillB (g : Nat) (b : Bool) (N P poly : Nat) (bc bf : Nat) (w : World) (hP : 3 ≤ P ∧ P ≤ 8) (hgp : Gf.Good P poly) (hNP : N + 1 = 2 ^ P) (ht : Tab 113 w g b ((N : Int) + 1) (fun _ => 0) (fun _ => 0)) (hbc : bc ≠ g) (hbf : bf ≠ g) (hcg : w.cell? ⟨bc, 0, none⟩ = some (.pointer (some ⟨g, 0, none⟩))) (hcp : w.cell? ⟨bf, 2, none⟩ = some (.int .i64 (poly : Int))) :
    Calls Try.prog 81 #[.pointer (some ⟨g, 0, none⟩), .func (Fn.func 82) #[] #[.pointer (some ⟨bc, 0, none⟩), .pointer (some ⟨bf, 0, none⟩)]] w (Filled 113 (tB P poly) N g b ((N : Int) + 1) w) := by
  have hN : 7 ≤ N ∧ N ≤ 255 := by
    obtain ⟨h1, h2⟩ := hP
    have k1 : 2 ^ 3 ≤ 2 ^ P := Nat.pow_le_pow_right (by decide) h1
    have k2 : 2 ^ P ≤ 2 ^ 8 := Nat.pow_le_pow_right (by decide) h2
    omega
  obtain ⟨hN1, hN2⟩ := hN
  have hts := ht.size_
  have hT := tB_range hgp hNP
  have HCG0 := Lib.hid hcg
  have HCP0 := Lib.hid hcp
  go_enter Try.func81, Try.ntmps81
  go_wp2
  go_loopw [5, 6] (fun x n wr => ∃ k : Nat, k ≤ N ∧ n = .int .i64 k ∧ x = .int .i64 (seqT (tB P poly) k) ∧ Tab 113 wr g b ((N : Int) + 1) (expT (tB P poly) k) (logT (tB P poly) k) ∧ Hid (goodT (tB P poly) k = true) ∧ w.grownBy wr (some g)) (fun _ n _ => N - (intOf n).toNat)
  case atStart => exact ⟨0, Nat.zero_le _, rfl, rfl, by rw [expT_zero]; exact ht, rfl, World.grownBy.refl _ _⟩
  case round =>
    clear hts
    obtain ⟨k, hk, rfl, rfl, htab, hgood, hg⟩ := hrel
    obtain ⟨hx1, hx2⟩ := seqT_range (t := (tB P poly)) (size := (N : Int) + 1) (by omega) hT k
    have hs := htab.size_
    have hf := htab.free
    have hS : Hid (seqT (tB P poly) (k + 1) = (tB P poly) (seqT (tB P poly) k)) := rfl
    obtain ⟨y, hy⟩ : ∃ y, seqT (tB P poly) k = y := ⟨_, rfl⟩
    have HY := Lib.hid hy
    rw [hy] at hx1 hx2 hS ⊢
    clear hy
    by_cases hlt : k < N
    · by_cases hz : y = 0
      · have hr := Lib.hid (okT_bad (t := (tB P poly)) hlt (.inl (by rw [HY.out]; exact hz)))
        have hzb : (y == 0) = true := by rw [beq_iff_eq]; exact hz
        clear hz
        go_wp2
        go_ret
        exact ⟨_, _, ret_bool hr.out.symm, htab, fun h => by (rw [hr.out] at h; cases h), hg⟩
      · by_cases h1 : 0 < k ∧ y = 1
        · have hr := Lib.hid (okT_bad (t := (tB P poly)) hlt (.inr ⟨h1.1, by rw [HY.out]; exact h1.2⟩))
          have hzb : (y == 0) = false := by rw [beq_eq_false_iff_ne]; exact hz
          have hob : (y == 1) = true := by rw [beq_iff_eq]; exact h1.2
          have hk0 : 0 < (k : Int) := by omega
          clear hz h1
          go_wp2
          go_ret
          exact ⟨_, _, ret_bool hr.out.symm, htab, fun h => by (rw [hr.out] at h; cases h), hg⟩
        · have hgd := Lib.hid (goodT_succ hgood.out (by rw [HY.out]; exact hz) (by rw [HY.out]; omega))
          have hzb : (y == 0) = false := by rw [beq_eq_false_iff_ne]; exact hz
          obtain ⟨yn, rfl⟩ := Int.eq_ofNat_of_zero_le hx1
          have hyn : yn < 1021 := by omega
          have he := htab.exp_ (i := k) (by omega)
          have htab2 := htab.setE (n := k) (by omega) (yn : Int)
          have hl := htab2.log_ (i := yn) hyn
          have hf2 := htab2.free
          have htab3 := htab2.setL (n := yn) hyn (k : Int)
          have hcg3 : ((wr.setCell ⟨g, 2 + k, none⟩ (.int .i64 (yn : Int))).setCell ⟨g, 1023 + yn, none⟩ (.int .i64 (k : Int))).cell? ⟨bc, 0, none⟩ = some (.pointer (some ⟨g, 0, none⟩)) := by
            rw [World.cell?_setCell_other _ _ _ _ (by intro e; injection e; omega), World.cell?_setCell_other _ _ _ _ (by intro e; injection e; omega), World.cell?_of_block (hg.block bc (by have := World.block_lt_of_cell? _ _ hcg; exact this) (by intro e; injection e; omega))]; exact hcg
          have hcp3 : ((wr.setCell ⟨g, 2 + k, none⟩ (.int .i64 (yn : Int))).setCell ⟨g, 1023 + yn, none⟩ (.int .i64 (k : Int))).cell? ⟨bf, 2, none⟩ = some (.int .i64 (poly : Int)) := by
            rw [World.cell?_setCell_other _ _ _ _ (by intro e; injection e; omega), World.cell?_setCell_other _ _ _ _ (by intro e; injection e; omega), World.cell?_of_block (hg.block bf (by have := World.block_lt_of_cell? _ _ hcp; exact this) (by intro e; injection e; omega))]; exact hcp
          have HCG := Lib.hid hcg3
          have HCP := Lib.hid hcp3
          clear hcg3 hcp3
          have HT3 := Lib.hid htab3
          clear htab2 htab3
          rcases Nat.eq_zero_or_pos k with hk0 | hk0
          · subst hk0
            clear h1 hz
            go_wp2_with (go_at_call 82; refine (binStep bc bf g P poly N _ _ hP hgp hNP (by omega) HCG.out HT3.out.size_ HCP.out).mono ?_; rintro e w' ⟨rfl, rfl⟩)
            go_roundw
            case rel => exact ⟨1, by omega, by go_num, by rw [hS.out], tab_step HY.out HT3.out, hgd, grown_set (grown_set hg)⟩
            case measure => simp [intOf]; omega
          · have hk1 : 0 < (k : Int) := by omega
            have hob : ((yn : Int) == 1) = false := by rw [beq_eq_false_iff_ne]; omega
            clear h1 hz
            go_wp2_with (go_at_call 82; refine (binStep bc bf g P poly N _ _ hP hgp hNP (by omega) HCG.out HT3.out.size_ HCP.out).mono ?_; rintro e w' ⟨rfl, rfl⟩)
            go_roundw
            case rel => exact ⟨k + 1, by omega, by go_num, by rw [hS.out], tab_step HY.out HT3.out, hgd, grown_set (grown_set hg)⟩
            case measure => simp [intOf]; omega
    · have hk2 : (N : Int) ≤ (k : Int) := by omega
      have HK := Lib.hid (show k = N by omega)
      have hkd : decide (k < N) = false := by simpa using hlt
      go_wp2
      go_ret
      obtain rfl := HK.out
      refine ⟨_, _, ?_, htab, fun h => ⟨rfl, rfl⟩, hg⟩
      refine ret_bool ?_
      unfold okT
      rw [hgood.out, HY.out, Bool.eq_iff_iff]
      simp
end Go.Proofs.Ytnajjofaijpciaa
