/-
  What a field's check comes to, and the contract of the program's own arithmetic of a field.
  Conditions: none.
-/
import Derived.Test.YtnajjofaijpciaaMg7
set_option linter.unusedVariables false
namespace Go.Proofs.Ytnajjofaijpciaa
open Go.RowKit Go.G8
/-- The powers of g modulo p run through all numbers but 0. -/
def runP (p g : Int) : Bool := okT (tP p g) (p - 1).toNat
def noRun (p : Int) (k : Nat) : Bool := (List.range k).all (fun g => decide (g < 2) || !runP p g)
def leastB (p y : Int) : Bool := decide (2 ≤ y ∧ y < p) && (runP p y && noRun p y.toNat)
def runB (P : Nat) (y : Int) : Bool := okT (tB P y.toNat) (2 ^ P - 1)
def binB (P : Nat) (y : Int) : Bool := decide ((2 : Int) ^ P ≤ y ∧ y < 2 * 2 ^ P) && runB P y
def fieldB (p q y : Int) : Bool := if q = 1 then decide (3 ≤ p ∧ p ≤ 1021) && (primeB p && leastB p y) else decide (p = 2 ∧ 3 ≤ q ∧ q ≤ 8) && binB q.toNat y
def fsize (p q : Int) : Int := if q = 1 then p else 2 ^ q.toNat
def fN (p q : Int) : Nat := (fsize p q - 1).toNat
def tF (p q y : Int) : Int → Int := if q = 1 then tP p y else tB q.toNat y.toNat
/-- What the arithmetic of a field comes to. -/
def CalcRes (T : TypeId) (p q y : Int) (w : World) (e : Ending) (w' : World) : Prop :=
  ∃ o : Option Addr, e = .returned (.tuple #[.pointer o, .bool (fieldB p q y)]) ∧ Below w.heap.size w w' ∧
    (fieldB p q y = true → ∃ G, o = some ⟨G, 0, none⟩ ∧ w.heap.size ≤ G ∧ Tab T w' G (!decide (q = 1)) (fsize p q) (expT (tF p q y) (fN p q)) (logT (tF p q y) (fN p q)))
theorem noRun_succ {p : Int} {k : Nat} (h : noRun p k = true) (hk : runP p k = false) : noRun p (k + 1) = true := by
  unfold noRun at *
  rw [List.range_succ, List.all_append, h]
  simp [hk]
theorem noRun_bad {p : Int} {k m : Nat} (h2 : 2 ≤ k) (hk : runP p k = true) (hm : k < m) : noRun p m = false := by
  rw [Bool.eq_false_iff]
  intro e
  have := List.all_eq_true.1 e k (by simpa using hm)
  simp [hk] at this
  omega
theorem least_found {p y : Int} {k : Nat} (h2 : 2 ≤ k) (hkp : (k : Int) < p) (h : noRun p k = true) (hk : runP p k = true) : leastB p y = decide ((k : Int) = y) := by
  unfold leastB
  by_cases e : (k : Int) = y
  · subst e
    simp [hk, h]
    omega
  · rw [decide_eq_false e, Bool.eq_false_iff]
    intro c
    simp only [Bool.and_eq_true, decide_eq_true_eq] at c
    obtain ⟨⟨c1, c2⟩, c3, c4⟩ := c
    rcases Int.lt_or_lt_of_ne e with hlt | hgt
    · rw [noRun_bad h2 hk (show k < y.toNat by omega)] at c4; cases c4
    · rw [noRun_bad (k := y.toNat) (by omega) (by rwa [show ((y.toNat : Nat) : Int) = y by omega]) (show y.toNat < k by omega)] at h; cases h
theorem least_none {p y : Int} {k : Nat} (hkp : p ≤ (k : Int)) (h : noRun p k = true) : leastB p y = false := by
  rw [Bool.eq_false_iff]
  intro c
  simp only [leastB, Bool.and_eq_true, decide_eq_true_eq] at c
  obtain ⟨⟨c1, c2⟩, c3, c4⟩ := c
  rw [noRun_bad (k := y.toNat) (by omega) (by rwa [show ((y.toNat : Nat) : Int) = y by omega]) (show y.toNat < k by omega)] at h
  cases h
theorem fieldB_prime {p y : Int} (h : 3 ≤ p ∧ p ≤ 1021) (hp : primeB p = true) : fieldB p 1 y = leastB p y := by
  unfold fieldB; rw [if_pos rfl, decide_eq_true h, hp]; simp
theorem fieldB_nop {p y : Int} (h : 3 ≤ p ∧ p ≤ 1021) (hp : primeB p = false) : fieldB p 1 y = false := by
  unfold fieldB; rw [if_pos rfl, hp]; simp
theorem fieldB_nor {p y : Int} (h : ¬ (3 ≤ p ∧ p ≤ 1021)) : fieldB p 1 y = false := by
  unfold fieldB; rw [if_pos rfl, decide_eq_false h]; simp
theorem fieldB_no2 {p q y : Int} (hq : ¬ q = 1) (h : ¬ (p = 2 ∧ 3 ≤ q ∧ q ≤ 8)) : fieldB p q y = false := by
  unfold fieldB; rw [if_neg hq, decide_eq_false h]; simp
theorem fieldB_two {y : Int} {P : Nat} (h : 3 ≤ P ∧ P ≤ 8) : fieldB 2 (P : Int) y = binB P y := by
  unfold fieldB; rw [if_neg (by omega), decide_eq_true (by omega)]; simp
set_option maxHeartbeats 1000000 in
theorem calc_prime (p y : Int) (w : World) (h : 3 ≤ p ∧ p ≤ 1021) (hp : primeB p = true) :
    Calls Try.prog 63 #[.agg #[.int .i64 p, .int .i64 1, .int .i64 y]] w (CalcRes 113 p 1 y w) := by
  obtain ⟨h1, h2⟩ := h
  have HF := Lib.hid (fieldB_prime (y := y) ⟨h1, h2⟩ hp)
  go_enter Try.func63, Try.ntmps63
  go_wp2_with (go_at_call 33; refine (inRange_yes p 3 1021 _ ⟨h1, h2⟩).mono ?_; rintro e w' ⟨rfl, rfl⟩)
  go_wp2_with (go_at_call 79; refine (isPrime_spec p _ ⟨h1, h2⟩).mono ?_; rw [hp]; rintro e w' ⟨rfl, rfl⟩)
  go_loopw [4, 5, 6] (fun g x1 x2 wr => ∃ k : Nat, 2 ≤ k ∧ (k : Int) ≤ p ∧ g = .int .i64 k ∧ Hid (noRun p k = true) ∧ Below w.heap.size w wr ∧ wr.cell? ⟨w.heap.size, 0, none⟩ = some (.int .i64 p) ∧ wr.cell? ⟨w.heap.size, 1, none⟩ = some (.int .i64 1) ∧ wr.cell? ⟨w.heap.size, 2, none⟩ = some (.int .i64 y) ∧ w.heap.size < wr.heap.size) (fun g _ _ _ => 1022 - (intOf g).toNat)
  case atStart =>
    refine ⟨2, by omega, by omega, by go_num, rfl, Below.alloc (Below.refl _ _) (Nat.le_refl _) _, ?_, ?_, ?_, by simp⟩ <;> rw [cell_of_row _ _ _ _ _ (0, 0) (heap_alloc_new w _)] <;> rfl
  case round =>
    obtain ⟨k, hk1, hk2, rfl, hnr, hbw, hc0, hc1, hc2, hlt⟩ := hrel
    by_cases hkp : (k : Int) < p
    · by_cases hrun : runP p k = true
      · have hr := Lib.hid (least_found (y := y) hk1 hkp hnr.out hrun)
        have HR := Lib.hid hrun
        have hfs : fsize p 1 = p := rfl
        have hfN : fN p 1 = (p - 1).toNat := rfl
        have htF : tF p 1 k = tP p k := rfl
        go_wp2_with (go_at_call 80; refine (primePowers_spec (p - 1).toNat p k _ (by omega) (by omega) (by omega)).mono ?_; unfold Calced; rw [show okT (tP p k) (p - 1).toNat = true from HR.out]; rintro e w1 ⟨G, E, L, rfl, hG, htab, hEL, hb1⟩)
        obtain ⟨hcc, hff⟩ := bcell hb1
        have hd2 := (hcc w.heap.size 2 hlt).trans hc2
        go_quiet (fail)
        go_wp2
        go_ret2
        refine ⟨_, ?_, bt hbw (below_drewN hb1 _), fun hf => ⟨G, rfl, by have := hbw.size; omega, ?_⟩⟩
        · rw [HF.out, hr.out]; exact congrArg (fun b => Ending.returned (.tuple #[.pointer (some ⟨G, 0, none⟩), .bool b])) (by rw [Bool.eq_iff_iff]; simp)
        · rw [HF.out, hr.out, decide_eq_true_eq] at hf
          subst hf
          obtain ⟨rfl, rfl⟩ := hEL (by trivial)
          exact htab.to (below_drewN (Below.refl _ _) _)
      · have hrf : runP p k = false := by simpa using hrun
        have hns := Lib.hid (noRun_succ hnr.out hrf)
        have HR := Lib.hid hrf
        go_wp2_with (go_at_call 80; refine (primePowers_spec (p - 1).toNat p k _ (by omega) (by omega) (by omega)).mono ?_; unfold Calced; rw [show okT (tP p k) (p - 1).toNat = false from HR.out]; rintro e w1 ⟨G, E, L, rfl, hG, htab, hEL, hb1⟩)
        obtain ⟨hcc, hff⟩ := bcell hb1
        have hd0 := (hcc w.heap.size 0 hlt).trans hc0
        have hd1 := (hcc w.heap.size 1 hlt).trans hc1
        have hd2 := (hcc w.heap.size 2 hlt).trans hc2
        have hsz := hb1.size
        refine ⟨⟨k + 1, by omega, by omega, by go_num, hns, bt hbw hb1, hd0, hd1, hd2, by omega⟩, by simp [intOf]; omega⟩
    · have hr := Lib.hid (least_none (y := y) (by omega) hnr.out)
      have hpk : p ≤ (k : Int) := by omega
      clear hkp
      go_wp2
      go_ret2
      refine ⟨none, ?_, hbw, fun hf => ?_⟩
      · rw [HF.out, hr.out]; rfl
      · rw [HF.out, hr.out] at hf; cases hf
theorem calc_no (p q y : Int) (w : World) (hq : ¬ q = 1) (h : ¬ (p = 2 ∧ 3 ≤ q ∧ q ≤ 8)) :
    Calls Try.prog 63 #[.agg #[.int .i64 p, .int .i64 q, .int .i64 y]] w (CalcRes 113 p q y w) := by
  have HF := Lib.hid (fieldB_no2 (y := y) hq h)
  have hqb : (q == 1) = false := by rw [beq_eq_false_iff_ne]; exact hq
  by_cases h2 : p = 2
  · subst h2
    have hin : ¬ (3 ≤ q ∧ q ≤ 8) := fun c => h ⟨rfl, c⟩
    clear h hq
    go_enter Try.func63, Try.ntmps63
    go_wp2_with (go_at_call 33; refine (inRange_no q 3 8 _ hin).mono ?_; rintro e w' ⟨rfl, rfl⟩)
    go_ret2
    refine ⟨none, ?_, ?_, fun hf => ?_⟩
    · rw [HF.out]; rfl
    · exact Below.alloc (Below.refl _ _) (Nat.le_refl _) _
    · rw [HF.out] at hf; cases hf
  · have hpb : (p == 2) = false := by rw [beq_eq_false_iff_ne]; exact h2
    clear h hq h2
    go_enter Try.func63, Try.ntmps63
    go_wp2
    go_ret2
    refine ⟨none, ?_, ?_, fun hf => ?_⟩
    · rw [HF.out]; rfl
    · exact Below.alloc (Below.refl _ _) (Nat.le_refl _) _
    · rw [HF.out] at hf; cases hf
theorem calc_nop (p y : Int) (w : World) (h : 3 ≤ p ∧ p ≤ 1021) (hp : primeB p = false) :
    Calls Try.prog 63 #[.agg #[.int .i64 p, .int .i64 1, .int .i64 y]] w (CalcRes 113 p 1 y w) := by
  obtain ⟨h1, h2⟩ := h
  have HF := Lib.hid (fieldB_nop (y := y) ⟨h1, h2⟩ hp)
  have hpb : (p == 2) = false := by rw [beq_eq_false_iff_ne]; omega
  go_enter Try.func63, Try.ntmps63
  go_wp2_with (go_at_call 33; refine (inRange_yes p 3 1021 _ ⟨h1, h2⟩).mono ?_; rintro e w' ⟨rfl, rfl⟩)
  go_wp2_with (go_at_call 79; refine (isPrime_spec p _ ⟨h1, h2⟩).mono ?_; rw [hp]; rintro e w' ⟨rfl, rfl⟩)
  go_ret2
  refine ⟨none, ?_, ?_, fun hf => ?_⟩
  · rw [HF.out]; rfl
  · exact Below.alloc (Below.refl _ _) (Nat.le_refl _) _
  · rw [HF.out] at hf; cases hf
theorem calc_nor (p y : Int) (w : World) (h : ¬ (3 ≤ p ∧ p ≤ 1021)) :
    Calls Try.prog 63 #[.agg #[.int .i64 p, .int .i64 1, .int .i64 y]] w (CalcRes 113 p 1 y w) := by
  have HF := Lib.hid (fieldB_nor (y := y) h)
  by_cases h2 : p = 2
  · subst h2
    clear h
    go_enter Try.func63, Try.ntmps63
    go_wp2
    go_ret2
    refine ⟨none, ?_, ?_, fun hf => ?_⟩
    · rw [HF.out]; rfl
    · exact Below.alloc (Below.refl _ _) (Nat.le_refl _) _
    · rw [HF.out] at hf; cases hf
  · have hpb : (p == 2) = false := by rw [beq_eq_false_iff_ne]; exact h2
    go_enter Try.func63, Try.ntmps63
    go_wp2_with (go_at_call 33; refine (inRange_no p 3 1021 _ h).mono ?_; rintro e w' ⟨rfl, rfl⟩)
    go_ret2
    refine ⟨none, ?_, ?_, fun hf => ?_⟩
    · rw [HF.out]; rfl
    · exact Below.alloc (Below.refl _ _) (Nat.le_refl _) _
    · rw [HF.out] at hf; cases hf
theorem binB_out {y : Int} {P : Nat} (h : ¬ ((2 : Int) ^ P ≤ y ∧ y < 2 * 2 ^ P)) : binB P y = false := by
  unfold binB; rw [decide_eq_false h]; simp
theorem calc_bout (P : Nat) (y : Int) (w : World) (hP : P = 3 ∨ P = 4 ∨ P = 5 ∨ P = 6 ∨ P = 7 ∨ P = 8) (h : ¬ ((2 : Int) ^ P ≤ y ∧ y < 2 * 2 ^ P)) :
    Calls Try.prog 63 #[.agg #[.int .i64 2, .int .i64 P, .int .i64 y]] w (CalcRes 113 2 P y w) := by
  have HF := Lib.hid ((fieldB_two (y := y) (P := P) (by omega)).trans (binB_out h))
  rcases hP with rfl | rfl | rfl | rfl | rfl | rfl
  · have hs : (y / 8 == 1) = false := by rw [beq_eq_false_iff_ne]; omega
    go_enter Try.func63, Try.ntmps63
    go_wp2_with (go_at_call 33; refine (inRange_yes 3 3 8 _ (by omega)).mono ?_; rintro e w' ⟨rfl, rfl⟩)
    go_ret2
    refine ⟨none, ?_, ?_, fun hf => ?_⟩
    · rw [HF.out]; rfl
    · exact Below.alloc (Below.refl _ _) (Nat.le_refl _) _
    · rw [HF.out] at hf; cases hf
  · have hs : (y / 16 == 1) = false := by rw [beq_eq_false_iff_ne]; omega
    go_enter Try.func63, Try.ntmps63
    go_wp2_with (go_at_call 33; refine (inRange_yes 4 3 8 _ (by omega)).mono ?_; rintro e w' ⟨rfl, rfl⟩)
    go_ret2
    refine ⟨none, ?_, ?_, fun hf => ?_⟩
    · rw [HF.out]; rfl
    · exact Below.alloc (Below.refl _ _) (Nat.le_refl _) _
    · rw [HF.out] at hf; cases hf
  · have hs : (y / 32 == 1) = false := by rw [beq_eq_false_iff_ne]; omega
    go_enter Try.func63, Try.ntmps63
    go_wp2_with (go_at_call 33; refine (inRange_yes 5 3 8 _ (by omega)).mono ?_; rintro e w' ⟨rfl, rfl⟩)
    go_ret2
    refine ⟨none, ?_, ?_, fun hf => ?_⟩
    · rw [HF.out]; rfl
    · exact Below.alloc (Below.refl _ _) (Nat.le_refl _) _
    · rw [HF.out] at hf; cases hf
  · have hs : (y / 64 == 1) = false := by rw [beq_eq_false_iff_ne]; omega
    go_enter Try.func63, Try.ntmps63
    go_wp2_with (go_at_call 33; refine (inRange_yes 6 3 8 _ (by omega)).mono ?_; rintro e w' ⟨rfl, rfl⟩)
    go_ret2
    refine ⟨none, ?_, ?_, fun hf => ?_⟩
    · rw [HF.out]; rfl
    · exact Below.alloc (Below.refl _ _) (Nat.le_refl _) _
    · rw [HF.out] at hf; cases hf
  · have hs : (y / 128 == 1) = false := by rw [beq_eq_false_iff_ne]; omega
    go_enter Try.func63, Try.ntmps63
    go_wp2_with (go_at_call 33; refine (inRange_yes 7 3 8 _ (by omega)).mono ?_; rintro e w' ⟨rfl, rfl⟩)
    go_ret2
    refine ⟨none, ?_, ?_, fun hf => ?_⟩
    · rw [HF.out]; rfl
    · exact Below.alloc (Below.refl _ _) (Nat.le_refl _) _
    · rw [HF.out] at hf; cases hf
  · have hs : (y / 256 == 1) = false := by rw [beq_eq_false_iff_ne]; omega
    go_enter Try.func63, Try.ntmps63
    go_wp2_with (go_at_call 33; refine (inRange_yes 8 3 8 _ (by omega)).mono ?_; rintro e w' ⟨rfl, rfl⟩)
    go_ret2
    refine ⟨none, ?_, ?_, fun hf => ?_⟩
    · rw [HF.out]; rfl
    · exact Below.alloc (Below.refl _ _) (Nat.le_refl _) _
    · rw [HF.out] at hf; cases hf
end Go.Proofs.Ytnajjofaijpciaa
