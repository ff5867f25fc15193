/-
  Plain law: the penalty does not change if rows become columns.
  Conditions: none.
-/
import Derived.Test.YtckmenjbblgiiaaPenF
set_option linter.unusedVariables false
namespace Go.Proofs.Ytckmenjbblgiiaa
open Go.RowKit Go.G8
/-- The first v columns, one behind another. -/
def colsTo (R C : Nat) (xs : List Int) : Nat → List Int
  | 0 => []
  | v + 1 => colsTo R C xs v ++ colL C xs v R
theorem colsTo_len (R C : Nat) (xs : List Int) (v : Nat) : (colsTo R C xs v).length = v * R := by
  induction v with
  | zero => simp [colsTo]
  | succ v ih => rw [colsTo, List.length_append, ih, colL_len, Nat.succ_mul]
theorem colL_at {C v i u : Nat} (xs : List Int) (h : i < u) : (colL C xs v u)[i]? = some (cellN xs (i * C + v)) := by
  unfold colL
  simp [h]
theorem colsTo_at {R C : Nat} (xs : List Int) {i : Nat} (hi : i < R) : ∀ v j, j < v → cellN (colsTo R C xs v) (j * R + i) = cellN xs (i * C + j) := by
  intro v
  induction v with
  | zero => intro j hj; omega
  | succ v ih =>
    intro j hj
    have hl := colsTo_len R C xs v
    by_cases h : j < v
    · have h2 : j * R + i < v * R := by
        have := Nat.mul_le_mul_right R (show j + 1 ≤ v from h)
        rw [Nat.succ_mul] at this
        omega
      rw [← ih j h]
      unfold cellN
      rw [colsTo, List.getElem?_append_left (by omega)]
    · obtain rfl : j = v := by omega
      unfold cellN
      rw [colsTo, List.getElem?_append_right (by omega), hl, show j * R + i - j * R = i by omega, colL_at xs hi]
      rfl
theorem colL_zo {C v u : Nat} {xs : List Int} (hz : zo xs) : ∀ x ∈ colL C xs v u, 0 ≤ x ∧ x ≤ 1 := by
  intro x hx
  unfold colL at hx
  obtain ⟨i, -, rfl⟩ := List.mem_map.1 hx
  exact cell_zo2 hz _
theorem colsTo_zo {R C : Nat} {xs : List Int} (hz : zo xs) (v : Nat) : ∀ x ∈ colsTo R C xs v, 0 ≤ x ∧ x ≤ 1 := by
  induction v with
  | zero => intro x hx; simp [colsTo] at hx
  | succ v ih =>
    intro x hx
    rcases List.mem_append.1 hx with hx | hx
    · exact ih x hx
    · exact colL_zo hz x hx
theorem sumN_split (f : Nat → Nat) (a b : Nat) : sumN f (a + b) = sumN f a + sumN (fun j => f (a + j)) b := by
  induction b with
  | zero => rfl
  | succ b ih => rw [← Nat.add_assoc, sumN, sumN, ih]; omega
theorem sumN_mul (f : Nat → Nat) (R C : Nat) : sumN f (R * C) = sumN (fun i => sumN (fun j => f (i * C + j)) C) R := by
  induction R with
  | zero => rw [Nat.zero_mul]; rfl
  | succ R ih => rw [Nat.succ_mul, sumN_split, ih]; rfl
theorem dark_sum {xs : List Int} (hz : zo xs) : ∀ k, k ≤ xs.length → (xs.take k).sum = ((sumN (fun i => (cellN xs i).toNat) k : Nat) : Int) := by
  intro k
  induction k with
  | zero => intro _; rfl
  | succ k ih =>
    intro hk
    rw [dark_at rfl (by omega), ih (by omega)]
    have := cell_zo2 hz k
    show _ = ((sumN (fun i => (cellN xs i).toNat) k + (cellN xs k).toNat : Nat) : Int)
    omega
theorem zo_tr {R C : Nat} {xs : List Int} (hz : zo xs) : zo (colsTo R C xs C) := fun x hx => by
  have := colsTo_zo hz C x hx
  omega
theorem dark_tr {R C : Nat} {xs : List Int} (hz : zo xs) (hl : xs.length = R * C) : darkI (colsTo R C xs C) = darkI xs := by
  have h1 := dark_sum hz xs.length (Nat.le_refl _)
  have h2 := dark_sum (zo_tr (R := R) (C := C) hz) (colsTo R C xs C).length (Nat.le_refl _)
  rw [List.take_of_length_le (Nat.le_refl _)] at h1 h2
  unfold darkI
  rw [h1, h2, hl, colsTo_len, sumN_mul, sumN_mul, sumN_swap]
  congr 1
  refine sumN_congr (fun i hi => sumN_congr (fun j hj => ?_))
  rw [colsTo_at xs hi C j hj]
theorem runs_tr (R C : Nat) (xs : List Int) : runsP C R (colsTo R C xs C) = runsP R C xs := by
  have h1 : sumN (rowP R (colsTo R C xs C)) C = sumN (colP R C xs) C := sumN_congr (fun j hj => by
    unfold rowP colP
    rw [runS_congr (h := fun k => cellN xs (k * C + j)) (fun k hk => colsTo_at xs hk C j hj) R (Nat.le_refl _)])
  have h2 : sumN (colP C R (colsTo R C xs C)) R = sumN (rowP C xs) R := sumN_congr (fun i hi => by
    unfold rowP colP
    rw [runS_congr (h := fun k => cellN xs (i * C + k)) (fun k hk => colsTo_at xs hi C k hk) C (Nat.le_refl _)])
  unfold runsP
  rw [h1, h2, Nat.add_comm]
theorem squares_tr (R C : Nat) (xs : List Int) : squaresP C R (colsTo R C xs C) = squaresP R C xs := by
  unfold squaresP sqRow
  show sumN (fun j => sumN (fun i => sqP R (colsTo R C xs C) j i) (R - 1)) (C - 1) = sumN (fun i => sumN (fun j => sqP C xs i j) (C - 1)) (R - 1)
  rw [sumN_swap]
  refine sumN_congr (fun i hi => sumN_congr (fun j hj => ?_))
  unfold sqP sq4
  have a1 := colsTo_at (C := C) xs (show i < R by omega) C j (by omega)
  have a2 := colsTo_at (C := C) xs (show i + 1 < R by omega) C j (by omega)
  have a3 := colsTo_at (C := C) xs (show i < R by omega) C (j + 1) (by omega)
  have a4 := colsTo_at (C := C) xs (show i + 1 < R by omega) C (j + 1) (by omega)
  rw [← Nat.add_assoc] at a2 a4
  rw [a1, a2, a3, a4]
  rw [show cellN xs (i * C + j) + cellN xs ((i + 1) * C + j) + cellN xs (i * C + (j + 1)) + cellN xs ((i + 1) * C + (j + 1)) = cellN xs (i * C + j) + cellN xs (i * C + j + 1) + cellN xs ((i + 1) * C + j) + cellN xs ((i + 1) * C + j + 1) by
    show cellN xs (i * C + j) + cellN xs ((i + 1) * C + j) + cellN xs (i * C + (j + 1)) + cellN xs ((i + 1) * C + (j + 1)) = cellN xs (i * C + j) + cellN xs (i * C + (j + 1)) + cellN xs ((i + 1) * C + j) + cellN xs ((i + 1) * C + (j + 1))
    omega]
theorem penOf_tr {R C : Nat} {xs : List Int} (hg : gridB R C xs = true) (hk : knownB xs = true) : rPenOf C R (colsTo R C xs C) = rPenOf R C xs := by
  obtain ⟨h1, h2, h3, h4⟩ := gridB_facts hg
  have hz := zo_of (cells_yes hg) hk
  have hl : xs.length = R * C := by rw [← Int.natCast_mul] at h4; omega
  have hz2 := colsTo_zo (R := R) (C := C) hz C
  have hg2 : gridB C R (colsTo R C xs C) = true := by
    rw [gridB_yes]
    · exact cells_all (fun x hx => by have := hz2 x hx; omega)
    · refine ⟨h2, h1, by rw [Int.mul_comm]; exact h3, ?_⟩
      rw [colsTo_len]
      exact Int.natCast_mul C R
  have hk2 : knownB (colsTo R C xs C) = true := List.all_eq_true.2 (fun x hx => by have := hz2 x hx; simp; omega)
  unfold rPenOf
  rw [if_pos ⟨hg2, hk2⟩, if_pos ⟨hg, hk⟩, Int.toNat_natCast, Int.toNat_natCast, runs_tr, squares_tr, dark_tr hz hl, Int.mul_comm (C : Int) R]
end Go.Proofs.Ytckmenjbblgiiaa
