/-
  What reading a segment answers, in plain words.
  Conditions: none.
-/
import Derived.Test.YtnajjofaijpciaaSegC
import Derived.Test.YtnajjofaijpciaaL01b
set_option linter.unusedVariables false
namespace Go.Proofs.Ytnajjofaijpciaa
open Go.RowKit Go.G8
/-- The characters of the lowest j digits of v, high first, and what is left of v. -/
def gGroup (m : Int) : Nat → Int → List Int × Int
  | 0, v => ([], v)
  | j + 1, v => (chr m ((gGroup m j v).2 % gCap m) :: (gGroup m j v).1, (gGroup m j v).2 / gCap m)
def gText (m : Int) (n : Nat) : Int := gLen m n - 11
def gTake (m : Int) (n : Nat) : Nat := min (gSize m).toNat n
def segL (xs : List Int) (m : Int) : Nat → Nat → Nat → Option (List Int × Nat)
  | 0, _, at_ => some ([], at_)
  | f + 1, n, at_ => if n = 0 then some ([], at_) else
      let g := gGroup m (gTake m n) (num (bpart xs at_ (gWidth m (gTake m n)).toNat))
      if 0 < g.2 then none else (segL xs m f (n - gTake m n) (at_ + (gWidth m (gTake m n)).toNat)).map fun r => (g.1 ++ r.1, r.2)
def rSeg (xs : List Int) (at_ : Nat) : Option (Int × List Int × Nat) :=
  if xs.length < at_ + 11 then none else
  if 1 ≤ num (bpart xs at_ 3) ∧ num (bpart xs at_ 3) ≤ 4 ∧ num (bpart xs (at_ + 3) 8) ≠ 0 ∧ (at_ : Int) + gLen (num (bpart xs at_ 3)) (num (bpart xs (at_ + 3) 8)).toNat ≤ xs.length then
    (segL xs (num (bpart xs at_ 3)) (num (bpart xs (at_ + 3) 8)).toNat (num (bpart xs (at_ + 3) 8)).toNat (at_ + 11)).map fun r => (num (bpart xs at_ 3), r.1, r.2)
  else none
theorem gGroup_len (m : Int) (j : Nat) (v : Int) : (gGroup m j v).1.length = j := by
  induction j with
  | zero => rfl
  | succ j ih => simp [gGroup, ih]
theorem gCap_pos {m : Int} (h : 1 ≤ m ∧ m ≤ 4) : 10 ≤ gCap m ∧ gCap m ≤ 256 := by
  rcases mode_cases h with rfl | rfl | rfl | rfl <;> decide
theorem gGroup_rest {m : Int} (h : 1 ≤ m ∧ m ≤ 4) (j : Nat) {v : Int} (hv : 0 ≤ v) : 0 ≤ (gGroup m j v).2 ∧ (gGroup m j v).2 ≤ v := by
  have hc := gCap_pos h
  induction j with
  | zero => exact ⟨hv, Int.le_refl _⟩
  | succ j ih =>
    show 0 ≤ (gGroup m j v).2 / gCap m ∧ (gGroup m j v).2 / gCap m ≤ v
    refine ⟨Int.ediv_nonneg ih.1 (by omega), Int.le_trans (Int.ediv_le_self _ ih.1) ih.2⟩
theorem gTake_pos {m : Int} (h : 1 ≤ m ∧ m ≤ 4) {n : Nat} (hn : 1 ≤ n) : 1 ≤ gTake m n ∧ gTake m n ≤ n ∧ (gTake m n : Int) ≤ gSize m := by
  rcases mode_cases h with rfl | rfl | rfl | rfl
  · show 1 ≤ min 3 n ∧ min 3 n ≤ n ∧ ((min 3 n : Nat) : Int) ≤ 3; omega
  · show 1 ≤ min 2 n ∧ min 2 n ≤ n ∧ ((min 2 n : Nat) : Int) ≤ 2; omega
  · show 1 ≤ min 1 n ∧ min 1 n ≤ n ∧ ((min 1 n : Nat) : Int) ≤ 1; omega
  · show 1 ≤ min 1 n ∧ min 1 n ≤ n ∧ ((min 1 n : Nat) : Int) ≤ 1; omega
theorem gText_1 (n : Nat) : gText 1 n = (n : Int) / 3 * 10 + (if 0 < (n : Int) % 3 then gWidth 1 ((n : Int) % 3) else 0) := by
  show 11 + (n : Int) / 3 * 10 + (if 0 < (n : Int) % 3 then gWidth 1 ((n : Int) % 3) else 0) - 11 = _
  omega
theorem gText_2 (n : Nat) : gText 2 n = (n : Int) / 2 * 11 + (if 0 < (n : Int) % 2 then gWidth 2 ((n : Int) % 2) else 0) := by
  show 11 + (n : Int) / 2 * 11 + (if 0 < (n : Int) % 2 then gWidth 2 ((n : Int) % 2) else 0) - 11 = _
  omega
theorem gText_3 (n : Nat) : gText 3 n = (n : Int) * 5 := by
  show 11 + (n : Int) / 1 * 5 + (if 0 < (n : Int) % 1 then gWidth 3 ((n : Int) % 1) else 0) - 11 = _
  rw [if_neg (by omega)]
  omega
theorem gText_4 (n : Nat) : gText 4 n = (n : Int) * 8 := by
  show 11 + (n : Int) / 1 * 8 + (if 0 < (n : Int) % 1 then gWidth 4 ((n : Int) % 1) else 0) - 11 = _
  rw [if_neg (by omega)]
  omega
theorem gText_step {m : Int} (h : 1 ≤ m ∧ m ≤ 4) {n : Nat} (hn : 1 ≤ n) : gText m n = gWidth m (gTake m n) + gText m (n - gTake m n) ∧ 0 ≤ gText m (n - gTake m n) ∧ 4 ≤ gWidth m (gTake m n) ∧ gWidth m (gTake m n) ≤ 11 := by
  have w1 : gWidth 1 1 = 4 := rfl
  have w2 : gWidth 1 2 = 7 := rfl
  have w3 : gWidth 1 3 = 10 := rfl
  have v1 : gWidth 2 1 = 6 := rfl
  have v2 : gWidth 2 2 = 11 := rfl
  rcases mode_cases h with rfl | rfl | rfl | rfl
  · rw [gText_1, gText_1]
    show _ = gWidth 1 ((min 3 n : Nat) : Int) + (((n - min 3 n : Nat) : Int) / 3 * 10 + _) ∧ _
    have hc : n = 1 ∨ n = 2 ∨ 3 ≤ n := by omega
    rcases hc with rfl | rfl | h3
    · decide
    · decide
    · have e : gTake 1 n = 3 := by show min 3 n = 3; omega
      have e0 : min 3 n = 3 := by omega
      rw [e, e0]
      have e1 : ((n - 3 : Nat) : Int) % 3 = (n : Int) % 3 := by omega
      have e2 : ((n - 3 : Nat) : Int) / 3 = (n : Int) / 3 - 1 := by omega
      rw [e1, e2, show ((3 : Nat) : Int) = 3 from rfl, w3]
      have hr : (n : Int) % 3 = 0 ∨ (n : Int) % 3 = 1 ∨ (n : Int) % 3 = 2 := by omega
      rcases hr with hr | hr | hr
      · rw [hr, if_neg (by decide)]; omega
      · rw [hr, if_pos (by decide), w1]; omega
      · rw [hr, if_pos (by decide), w2]; omega
  · rw [gText_2, gText_2]
    show _ = gWidth 2 ((min 2 n : Nat) : Int) + (((n - min 2 n : Nat) : Int) / 2 * 11 + _) ∧ _
    have hc : n = 1 ∨ 2 ≤ n := by omega
    rcases hc with rfl | h3
    · decide
    · have e : gTake 2 n = 2 := by show min 2 n = 2; omega
      have e0 : min 2 n = 2 := by omega
      rw [e, e0]
      have e1 : ((n - 2 : Nat) : Int) % 2 = (n : Int) % 2 := by omega
      have e2 : ((n - 2 : Nat) : Int) / 2 = (n : Int) / 2 - 1 := by omega
      rw [e1, e2, show ((2 : Nat) : Int) = 2 from rfl, v2]
      have hr : (n : Int) % 2 = 0 ∨ (n : Int) % 2 = 1 := by omega
      rcases hr with hr | hr
      · rw [hr, if_neg (by decide)]; omega
      · rw [hr, if_pos (by decide), v1]; omega
  · have e : gTake 3 n = 1 := by show min 1 n = 1; omega
    rw [gText_3, gText_3, e, show gWidth 3 ((1 : Nat) : Int) = 5 from rfl]
    omega
  · have e : gTake 4 n = 1 := by show min 1 n = 1; omega
    rw [gText_4, gText_4, e, show gWidth 4 ((1 : Nat) : Int) = 8 from rfl]
    omega
theorem set_front (k : Nat) (c : Int) (l : List Int) : (List.replicate (k + 1) (0 : Int) ++ l).set k c = List.replicate k 0 ++ c :: l := by
  induction k with
  | zero => rfl
  | succ k ih => rw [List.replicate_succ, List.cons_append, List.set_cons_succ, ih]; rfl
end Go.Proofs.Ytnajjofaijpciaa
