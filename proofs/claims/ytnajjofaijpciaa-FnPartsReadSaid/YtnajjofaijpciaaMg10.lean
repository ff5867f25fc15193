/-
  Texts of the proof, one behind the other: each bears its own heading.
  Conditions: as the headings say.
-/
import Derived.Test.YtnajjofaijpciaaFieldC
import Derived.Test.YtnajjofaijpciaaMg2
/-
  Contracts of the reference product of a field's elements.
  Conditions: the polynomial has between 3 and 8 bits over its highest; primes up to 1021.
-/
set_option linter.unusedVariables false
namespace Go.Proofs.Ytnajjofaijpciaa
open Go.RowKit Go.G8
def fMul (p q y a b : Int) : Int := if q = 1 then a * b % p else (Gf.mulN q.toNat y.toNat a.toNat b.toNat : Int)
theorem clm_snoc_yes {a b k : Nat} (h : b.testBit k = true) : Gf.clm a b (k + 1) = Gf.clm a b k ^^^ (2 ^ k * a) := by simp [Gf.clm, h]
theorem clm_snoc_no {a b k : Nat} (h : b.testBit k = false) : Gf.clm a b (k + 1) = Gf.clm a b k := by simp [Gf.clm, h]
theorem redF_yes {P poly j x : Nat} (h : x.testBit (P + j) = true) : Gf.redF P poly (j + 1) x = Gf.redF P poly j (x ^^^ (2 ^ j * poly)) := by simp [Gf.redF, h]
theorem redF_no {P poly j x : Nat} (h : x.testBit (P + j) = false) : Gf.redF P poly (j + 1) x = Gf.redF P poly j x := by simp [Gf.redF, h]
theorem bit_yes {b k : Nat} (h : b.testBit k = true) : ((b : Int) / 2 ^ k % 2 == 1) = true := by
  rw [Nat.testBit_eq_decide_div_mod_eq, decide_eq_true_eq] at h
  rw [beq_iff_eq]
  have e : ((2 ^ k : Nat) : Int) = (2 : Int) ^ k := Int.natCast_pow 2 k
  rw [← e, ← Int.natCast_ediv]
  omega
theorem bit_no {b k : Nat} (h : b.testBit k = false) : ((b : Int) / 2 ^ k % 2 == 1) = false := by
  rw [Nat.testBit_eq_decide_div_mod_eq, decide_eq_false_iff_not] at h
  rw [beq_eq_false_iff_ne]
  have e : ((2 ^ k : Nat) : Int) = (2 : Int) ^ k := Int.natCast_pow 2 k
  rw [← e, ← Int.natCast_ediv]
  omega
theorem wrap_shl {a k : Nat} (h : 2 ^ k * a < 4294967296) : wrap64 ((a : Int) * 2 ^ k) = ((2 ^ k * a : Nat) : Int) := by
  have e : ((2 ^ k * a : Nat) : Int) = (a : Int) * 2 ^ k := by rw [Int.natCast_mul, Int.natCast_pow, Int.mul_comm]; rfl
  rw [← e]
  unfold wrap64
  omega
theorem shl_lt {a k P : Nat} (h : a < 2 ^ P) (hk : P + k ≤ 17) : 2 ^ k * a < 131072 := by
  have h1 : 2 ^ k * a < 2 ^ k * 2 ^ P := Nat.mul_lt_mul_of_pos_left h (Nat.pow_pos (by decide))
  rw [← Nat.pow_add] at h1
  have h2 : 2 ^ (k + P) ≤ 2 ^ 17 := Nat.pow_le_pow_right (by decide) (by omega)
  omega
theorem red_lt_yes {P poly j x : Nat} (h : Gf.Good P poly) (hx : x < 2 ^ (P + (j + 1))) (hb : x.testBit (P + j) = true) : x ^^^ (2 ^ j * poly) < 2 ^ (P + j) := by
  have hx' : x < 2 ^ (P + j + 1) := hx
  have hpj : 2 ^ (P + j) ≤ 2 ^ j * poly ∧ 2 ^ j * poly < 2 ^ (P + j + 1) := by
    constructor
    · rw [Nat.pow_add, Nat.mul_comm]; exact Nat.mul_le_mul_left _ h.1
    · rw [show P + j + 1 = j + (P + 1) from by omega, Nat.pow_add]
      exact Nat.mul_lt_mul_of_pos_left h.2 (Nat.pow_pos (by decide))
  refine Nat.lt_pow_two_of_testBit _ (fun i hi => ?_)
  rw [Nat.testBit_xor]
  rcases Nat.lt_or_ge (P + j) i with hl | hg
  · rw [Nat.testBit_lt_two_pow (Nat.lt_of_lt_of_le hx' (Nat.pow_le_pow_right (by decide) hl)), Nat.testBit_lt_two_pow (Nat.lt_of_lt_of_le hpj.2 (Nat.pow_le_pow_right (by decide) hl))]
    rfl
  · obtain rfl : i = P + j := by omega
    rw [hb, Gf.top_bit hpj.1 hpj.2]
    rfl
theorem red_lt_no {P j x : Nat} (hx : x < 2 ^ (P + (j + 1))) (hb : x.testBit (P + j) = false) : x < 2 ^ (P + j) := by
  have hx' : x < 2 ^ (P + j + 1) := hx
  refine Nat.lt_pow_two_of_testBit _ (fun i hi => ?_)
  rcases Nat.lt_or_ge (P + j) i with hl | hg
  · exact Nat.testBit_lt_two_pow (Nat.lt_of_lt_of_le hx' (Nat.pow_le_pow_right (by decide) hl))
  · obtain rfl : i = P + j := by omega
    exact hb
theorem l02Mul_prime (p y a b : Int) (w : World) (hp : 3 ≤ p ∧ p ≤ 1021) (ha : 0 ≤ a ∧ a < p) (hb : 0 ≤ b ∧ b < p) :
    Calls Try.prog 94 #[.agg #[.int .i64 p, .int .i64 1, .int .i64 y], .int .i64 a, .int .i64 b] w (fun e w' => e = .returned (.int .i64 (a * b % p)) ∧ Below w.heap.size w w') := by
  obtain ⟨hp1, hp2⟩ := hp
  obtain ⟨ha1, ha2⟩ := ha
  obtain ⟨hb1, hb2⟩ := hb
  have hm1 : 0 ≤ a * b := Int.mul_nonneg ha1 hb1
  have hm2 : a * b ≤ 1021 * 1021 := Int.mul_le_mul (by omega) (by omega) hb1 (by omega)
  go_enter Try.func94, Try.ntmps94
  go_wp2
  go_ret
  exact ⟨rfl, Below.alloc (Below.refl _ _) (Nat.le_refl _) _⟩
set_option maxHeartbeats 1000000 in
theorem l02Mul_bin (P y a b : Nat) (w : World) (hP : 3 ≤ P ∧ P ≤ 8) (hg : Gf.Good P y) (ha : a < 2 ^ P) (hb : b < 2 ^ P) :
    Calls Try.prog 94 #[.agg #[.int .i64 2, .int .i64 P, .int .i64 y], .int .i64 a, .int .i64 b] w (fun e w' => e = .returned (.int .i64 (Gf.mulN P y a b : Nat)) ∧ Below w.heap.size w w') := by
  obtain ⟨hP1, hP2⟩ := hP
  have hpb : ((P : Int) == 1) = false := by rw [beq_eq_false_iff_ne]; omega
  have h2P : 2 ^ P ≤ 256 := by
    have : 2 ^ P ≤ 2 ^ 8 := Nat.pow_le_pow_right (by decide) hP2
    omega
  have hy : y < 512 := by
    have h2 : 2 ^ (P + 1) ≤ 2 ^ 9 := Nat.pow_le_pow_right (by decide) (by omega)
    have := hg.2
    omega
  have HA := Lib.hid ha
  have ha8 : a ≤ 255 := by omega
  have hb8 : b ≤ 255 := by omega
  clear ha hb
  go_enter Try.func94, Try.ntmps94
  go_wp2
  go_loop [7, 8] (fun o i => ∃ k : Nat, k ≤ P ∧ i = .int .i64 k ∧ o = .int .i64 (Gf.clm a b k : Nat)) (fun _ i => P - (intOf i).toNat)
  case atStart => exact ⟨0, Nat.zero_le _, rfl, rfl⟩
  case round =>
    obtain ⟨k, hk, rfl, rfl⟩ := hrel
    have hcl := Gf.clm_lt (a := a) (b := b) HA.out k
    have hcl2 : Gf.clm a b k < 65536 := by
      have : 2 ^ (P + k) ≤ 2 ^ 16 := Nat.pow_le_pow_right (by decide) (by omega)
      omega
    by_cases hlt : k < P
    · cases ht : b.testBit k with
      | true =>
        have hand := i64_and1 ((b : Int) / 2 ^ k)
        have hbit := bit_yes ht
        have hS := Lib.hid (clm_snoc_yes (a := a) ht)
        have hw := Lib.hid (wrap_shl (a := a) (k := k) (by have := shl_lt HA.out (k := k) (by omega); omega))
        have hx := Lib.hid (i64_xor_nat (Gf.clm a b k) (2 ^ k * a) (by omega) (by have := shl_lt HA.out (k := k) (by omega); omega))
        go_wp2
        go_round
        case rel => exact ⟨k + 1, by omega, by go_num, by rw [hw.out, hx.out, hS.out]⟩
        case measure => simp [intOf]; omega
      | false =>
        have hand := i64_and1 ((b : Int) / 2 ^ k)
        have hbit := bit_no ht
        have hS := Lib.hid (clm_snoc_no (a := a) ht)
        go_wp2
        go_round
        case rel => exact ⟨k + 1, by omega, by go_num, by rw [hS.out]⟩
        case measure => simp [intOf]; omega
    · obtain rfl : k = P := by omega
      clear hlt hk
      go_wp2
      go_loop [7, 9] (fun o i => ∃ m j x : Nat, m + 1 = k + j ∧ j ≤ k + 1 ∧ i = .int .i64 m ∧ o = .int .i64 x ∧ x < 2 ^ (k + j) ∧ Hid (Gf.redF k y j x = Gf.mulN k y a b)) (fun _ i => (intOf i).toNat + 1 - k)
      case atStart => exact ⟨2 * k, k + 1, _, by omega, by omega, by go_num, rfl, Nat.lt_of_lt_of_le hcl (Nat.pow_le_pow_right (by decide) (by omega)), rfl⟩
      case round =>
        obtain ⟨m, j, x, hm, hj, rfl, rfl, hx, hred⟩ := hrel
        rcases j with _ | j
        · have hmk : m < k := by omega
          go_wp2
          go_ret
          exact ⟨ret_int (by rw [← hred.out]; rfl), Below.alloc (Below.refl _ _) (Nat.le_refl _) _⟩
        · obtain rfl : m = k + j := by omega
          have hx17 : x < 131072 := by
            have : 2 ^ (k + (j + 1)) ≤ 2 ^ 17 := Nat.pow_le_pow_right (by decide) (by omega)
            omega
          have hand := i64_and1 ((x : Int) / 2 ^ (k + j))
          cases ht : x.testBit (k + j) with
          | true =>
            have hbit := bit_yes ht
            have hS := Lib.hid (redF_yes (poly := y) ht)
            have HY := Lib.hid (Nat.lt_of_lt_of_le hg.2 (Nat.pow_le_pow_right (show 0 < 2 by decide) (Nat.le_refl _)))
            have hw := Lib.hid (wrap_shl (a := y) (k := j) (by have := shl_lt hg.2 (k := j) (by omega); omega))
            have hxx := Lib.hid (i64_xor_nat x (2 ^ j * y) (by omega) (by have := shl_lt hg.2 (k := j) (by omega); omega))
            have hlt := red_lt_yes hg hx ht
            go_wp2
            go_round
            case rel => exact ⟨k + j - 1, j, _, by omega, by omega, by rw [show (k : Int) + (j : Int) - 1 = ((k + j - 1 : Nat) : Int) by omega], by rw [hw.out, hxx.out], hlt, Lib.hid (hS.out.symm.trans hred.out)⟩
            case measure => simp [intOf]; omega
          | false =>
            have hbit := bit_no ht
            have hS := Lib.hid (redF_no (poly := y) ht)
            have hlt := red_lt_no hx ht
            go_wp2
            go_round
            case rel => exact ⟨k + j - 1, j, _, by omega, by omega, by rw [show (k : Int) + (j : Int) - 1 = ((k + j - 1 : Nat) : Int) by omega], rfl, hlt, Lib.hid (hS.out.symm.trans hred.out)⟩
            case measure => simp [intOf]; omega
end Go.Proofs.Ytnajjofaijpciaa
/-
  Contracts of the reference tests of a field.
  Conditions: none.
-/
set_option linter.unusedVariables false
namespace Go.Proofs.Ytnajjofaijpciaa
open Go.RowKit Go.G8
def RetB (v : Value) (w : World) (e : Ending) (w' : World) : Prop := e = .returned v ∧ Below w.heap.size w w'
theorem runs_end {t : Int → Int} {N n : Nat} (hN : 1 ≤ N) (hg : goodT t n = true) (h1 : 1 ≤ n) (h2 : n ≤ N + 1) (h : seqT t n = 1 ∨ seqT t n = 0 ∨ n = N + 1) : okT t N = (decide (seqT t n = 1) && decide (n = N)) := by
  rcases Nat.lt_trichotomy n N with hlt | rfl | hgt
  · rw [okT_bad hlt (by rcases h with h | h | h; exact .inr ⟨h1, h⟩; exact .inl h; omega), decide_eq_false (show ¬ n = N by omega), Bool.and_false]
  · unfold okT; rw [hg]; simp
  · obtain rfl : n = N + 1 := by omega
    rw [decide_eq_false (show ¬ N + 1 = N by omega), Bool.and_false, Bool.eq_false_iff]
    intro e
    simp only [okT, Bool.and_eq_true, decide_eq_true_eq] at e
    simp only [goodT, Bool.and_eq_true, Bool.or_eq_true, decide_eq_true_eq] at hg
    rcases hg.2.2 with h | h
    · omega
    · exact h e.2
theorem l02Size_p (p y : Int) (w : World) : Calls Try.prog 52 #[.agg #[.int .i64 p, .int .i64 1, .int .i64 y]] w (RetB (.int .i64 p) w) := by
  go_enter Try.func52, Try.ntmps52
  go_wp2
  go_ret
  exact ⟨rfl, Below.alloc (Below.refl _ _) (Nat.le_refl _) _⟩
theorem l02Size_2 (P : Nat) (y : Int) (w : World) (hP : P = 3 ∨ P = 4 ∨ P = 5 ∨ P = 6 ∨ P = 7 ∨ P = 8) : Calls Try.prog 52 #[.agg #[.int .i64 2, .int .i64 P, .int .i64 y]] w (RetB (.int .i64 ((2 ^ P - 1 : Nat) + 1)) w) := by
  rcases hP with rfl | rfl | rfl | rfl | rfl | rfl <;>
  (go_enter Try.func52, Try.ntmps52
   go_wp2
   go_ret
   exact ⟨rfl, Below.alloc (Below.refl _ _) (Nat.le_refl _) _⟩)
set_option maxHeartbeats 1000000 in
theorem runs_any (p q y g : Int) (t : Int → Int) (N : Nat) (w : World) (hN : 2 ≤ N ∧ N ≤ 1020) (hg : 0 ≤ g ∧ g < (N : Int) + 1) (ht1 : t 1 = g) (ht : ∀ x, 0 ≤ x → x < (N : Int) + 1 → 0 ≤ t x ∧ t x < (N : Int) + 1)
    (hsize : ∀ w, Calls Try.prog 52 #[.agg #[.int .i64 p, .int .i64 q, .int .i64 y]] w (RetB (.int .i64 ((N : Int) + 1)) w))
    (hmul : ∀ x w, 0 ≤ x → x < (N : Int) + 1 → Calls Try.prog 94 #[.agg #[.int .i64 p, .int .i64 q, .int .i64 y], .int .i64 x, .int .i64 g] w (RetB (.int .i64 (t x)) w)) :
    Calls Try.prog 88 #[.agg #[.int .i64 p, .int .i64 q, .int .i64 y], .int .i64 g] w (RetB (.bool (okT t N)) w) := by
  obtain ⟨hN1, hN2⟩ := hN
  obtain ⟨hg1, hg2⟩ := hg
  have HS := Lib.hid hsize
  have HM := Lib.hid hmul
  have HT1 := Lib.hid ht1
  have HT := Lib.hid ht
  clear hsize hmul ht1 ht
  go_enter Try.func88, Try.ntmps88
  go_wp2
  go_loopw [5, 6] (fun x n wr => ∃ k : Nat, 1 ≤ k ∧ k ≤ N + 1 ∧ n = .int .i64 k ∧ x = .int .i64 (seqT t k) ∧ Hid (goodT t k = true) ∧ Below w.heap.size w wr ∧ wr.cell? ⟨w.heap.size, 0, none⟩ = some (.int .i64 p) ∧ wr.cell? ⟨w.heap.size, 1, none⟩ = some (.int .i64 q) ∧ wr.cell? ⟨w.heap.size, 2, none⟩ = some (.int .i64 y) ∧ w.heap.size < wr.heap.size) (fun _ n _ => N + 1 - (intOf n).toNat)
  case atStart =>
    refine ⟨1, by omega, by omega, by go_num, by rw [show seqT t 1 = t 1 from rfl, HT1.out], Lib.hid (by simp [goodT, seqT]), Below.alloc (Below.refl _ _) (Nat.le_refl _) _, ?_, ?_, ?_, by simp⟩ <;> rw [cell_of_row _ _ _ _ _ (0, 0) (heap_alloc_new w _)] <;> rfl
  case round =>
    obtain ⟨k, hk1, hk2, rfl, rfl, hgd, hbw, hc0, hc1, hc2, hlt⟩ := hrel
    obtain ⟨hx1, hx2⟩ := seqT_range (t := t) (size := (N : Int) + 1) (by omega) HT.out k
    have hSS : Hid (seqT t (k + 1) = t (seqT t k)) := rfl
    obtain ⟨x, hx⟩ : ∃ x, seqT t k = x := ⟨_, rfl⟩
    have HX := Lib.hid hx
    rw [hx] at hx1 hx2 hSS ⊢
    clear hx
    by_cases hb : x = 1
    · have hr := Lib.hid (runs_end (by omega) hgd.out hk1 hk2 (.inl (by rw [HX.out]; exact hb)))
      subst hb
      by_cases hkN : k = N
      · have hkb : ((k : Int) == (N : Int)) = true := by rw [beq_iff_eq]; omega
        go_wp2_with (go_at_call 52; refine (HS.out _).mono ?_; rintro e w' ⟨rfl, hb⟩)
        go_ret
        exact ⟨ret_bool (by rw [hr.out, HX.out]; simp [hkN]), bt hbw hb⟩
      · have hkb : ((k : Int) == (N : Int)) = false := by rw [beq_eq_false_iff_ne]; omega
        go_wp2_with (go_at_call 52; refine (HS.out _).mono ?_; rintro e w' ⟨rfl, hb⟩)
        go_ret
        exact ⟨ret_bool (by rw [hr.out, HX.out]; simp [hkN]), bt hbw hb⟩
    · by_cases h0 : x = 0
      · have hr := Lib.hid (runs_end (by omega) hgd.out hk1 hk2 (.inr (.inl (by rw [HX.out]; exact h0))))
        subst h0
        go_wp2
        go_ret
        exact ⟨ret_bool (by rw [hr.out, HX.out]; simp), hbw⟩
      · have hxb1 : (x == 1) = false := by rw [beq_eq_false_iff_ne]; exact hb
        have hxb0 : (x == 0) = false := by rw [beq_eq_false_iff_ne]; exact h0
        have hxn1 : (x != 1) = true := by rw [bne_iff_ne]; exact hb
        have hxn0 : (x != 0) = true := by rw [bne_iff_ne]; exact h0
        by_cases hkN : k < N + 1
        · have hgs := Lib.hid (goodT_succ hgd.out (by rw [HX.out]; exact h0) (.inr (by rw [HX.out]; exact hb)))
          have hkN2 : (k : Int) < (N : Int) + 1 := by omega
          clear hb h0
          go_wp2_with (go_at_call 52; refine (HS.out _).mono ?_; rintro e w' ⟨rfl, hb⟩; obtain ⟨hcc, hff⟩ := bcell hb; have hd0 := (hcc w.heap.size 0 hlt).trans hc0; have hd1 := (hcc w.heap.size 1 hlt).trans hc1; have hd2 := (hcc w.heap.size 2 hlt).trans hc2)
          go_wp2_with (go_at_call 94; refine (HM.out x _ hx1 hx2).mono ?_; rintro e w'' ⟨rfl, hb2⟩)
          obtain ⟨hcc, hff⟩ := bcell hb2
          have hsz := hb.size
          have hsz2 := hb2.size
          exact ⟨⟨k + 1, by omega, by omega, by go_num, by rw [hSS.out], hgs, bt (bt hbw hb) hb2, (hcc w.heap.size 0 (by omega)).trans hd0, (hcc w.heap.size 1 (by omega)).trans hd1, (hcc w.heap.size 2 (by omega)).trans hd2, by omega⟩, by simp [intOf]; omega⟩
        · have hr := Lib.hid (runs_end (by omega) hgd.out hk1 hk2 (.inr (.inr (by omega))))
          have hkN2 : (N : Int) + 1 ≤ (k : Int) := by omega
          have HB := Lib.hid hb
          clear hb h0 hkN
          go_wp2_with (go_at_call 52; refine (HS.out _).mono ?_; rintro e w' ⟨rfl, hb⟩)
          go_ret
          exact ⟨ret_bool (by rw [hr.out, HX.out]; simp [HB.out]), bt hbw hb⟩
theorem tP_one {p g : Int} (hg : 0 ≤ g ∧ g < p) : tP p g 1 = g := by
  unfold tP; rw [Int.one_mul, Int.emod_eq_of_lt hg.1 hg.2]
theorem runs_p (p y g : Int) (w : World) (hp : 3 ≤ p ∧ p ≤ 1021) (hg : 0 ≤ g ∧ g < p) :
    Calls Try.prog 88 #[.agg #[.int .i64 p, .int .i64 1, .int .i64 y], .int .i64 g] w (RetB (.bool (runP p g)) w) := by
  have e : (((p - 1).toNat : Nat) : Int) + 1 = p := by omega
  refine runs_any p 1 y g (tP p g) (p - 1).toNat w (by omega) (by omega) (tP_one hg) (fun x _ _ => ?_) (fun w => ?_) (fun x w h1 h2 => ?_)
  · have h1 := Int.emod_nonneg (x * g) (show p ≠ 0 by omega)
    have h2 := Int.emod_lt_of_pos (x * g) (show 0 < p by omega)
    unfold tP
    omega
  · rw [e]; exact l02Size_p p y w
  · exact l02Mul_prime p y x g w hp (by omega) hg
theorem mul_two {P y a : Nat} (hP : 3 ≤ P) (h : Gf.Good P y) (ha : a < 2 ^ P) : Gf.mulN P y a 2 = Gf.xt P y a := by
  have h0 : Gf.mt P y a 2 P = Gf.xt P y a := by
    have h2 : ∀ k, 2 ≤ k → Gf.mt P y a 2 k = Gf.xt P y a := by
      intro k hk
      induction k with
      | zero => omega
      | succ k ih =>
        rcases Nat.lt_or_ge k 2 with h1 | h1
        · obtain rfl : k = 1 := by omega
          simp [Gf.mt, Gf.xts, Nat.testBit]
        · have hb : Nat.testBit 2 k = false := Nat.testBit_lt_two_pow (Nat.lt_of_lt_of_le (show 2 < 2 ^ 2 by decide) (Nat.pow_le_pow_right (by decide) h1))
          simp only [Gf.mt, hb]
          exact ih h1
    exact h2 P (by omega)
  rw [Gf.mulN_mt h (by omega) ha, h0]
theorem tB_one {P y : Nat} (hP : 3 ≤ P) : tB P y 1 = 2 := by
  have h := Gf.xts_one (P := P) (poly := y) (k := 1) (by omega)
  unfold tB
  have e : Gf.xt P y 1 = 2 := h
  rw [show (1 : Int).toNat = 1 from rfl, e]
  rfl
theorem runs_2 (P : Nat) (y : Int) (w : World) (hP : P = 3 ∨ P = 4 ∨ P = 5 ∨ P = 6 ∨ P = 7 ∨ P = 8) (hg : Gf.Good P y.toNat) (hy : 0 ≤ y) :
    Calls Try.prog 88 #[.agg #[.int .i64 2, .int .i64 P, .int .i64 y], .int .i64 2] w (RetB (.bool (runB P y)) w) := by
  have h8 : 2 ^ P ≤ 256 ∧ 8 ≤ 2 ^ P := by rcases hP with rfl | rfl | rfl | rfl | rfl | rfl <;> decide
  have hNP : (2 ^ P - 1) + 1 = 2 ^ P := by omega
  refine runs_any 2 P y 2 (tB P y.toNat) (2 ^ P - 1) w (by omega) (by omega) (tB_one (by omega)) (tB_range hg hNP) (fun w => l02Size_2 P y w hP) (fun x w h1 h2 => ?_)
  obtain ⟨a, rfl⟩ := Int.eq_ofNat_of_zero_le h1
  obtain ⟨z, rfl⟩ := Int.eq_ofNat_of_zero_le hy
  simp only [Int.toNat_natCast] at hg ⊢
  have := l02Mul_bin P z a 2 w (by omega) hg (by omega) (by omega)
  rw [mul_two (by omega) hg (by omega)] at this
  exact this
end Go.Proofs.Ytnajjofaijpciaa
