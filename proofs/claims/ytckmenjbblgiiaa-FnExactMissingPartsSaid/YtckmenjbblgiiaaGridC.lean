/-
  Contracts: a cell of a grid; the law's grid as the program's; equal grids.
  Conditions: none.
-/
import Derived.Test.YtckmenjbblgiiaaGrid
set_option linter.unusedVariables false
namespace Go.Proofs.Ytckmenjbblgiiaa
open Go.RowKit Go.G8
theorem keep3 {W W' : World} {b : Nat} {u0 u1 u2 : Value} (hb : Below W.heap.size W W') (hlt : b < W.heap.size) (c0 : W.cell? ⟨b, 0, none⟩ = some u0) (c1 : W.cell? ⟨b, 1, none⟩ = some u1) (c2 : W.cell? ⟨b, 2, none⟩ = some u2) : W'.cell? ⟨b, 0, none⟩ = some u0 ∧ W'.cell? ⟨b, 1, none⟩ = some u1 ∧ W'.cell? ⟨b, 2, none⟩ = some u2 ∧ b < W'.heap.size := by
  obtain ⟨hcc, hff⟩ := bcell hb
  exact ⟨(hcc _ 0 hlt).trans c0, (hcc _ 1 hlt).trans c1, (hcc _ 2 hlt).trans c2, Nat.lt_of_lt_of_le hlt hb.size⟩
def placeB (r c row col : Int) : Prop := (0 ≤ row ∧ row ≤ r - 1) ∧ (0 ≤ col ∧ col ≤ c - 1)
instance (r c row col : Int) : Decidable (placeB r c row col) := by unfold placeB; exact inferInstance
def rCellAt (r c : Int) (xs : List Int) (row col : Int) : Int × Int :=
  if gridB r c xs = false then (0, 1) else if ¬ placeB r c row col then (0, 2) else (xs[(row * c + col).toNat]?.getD 0, 0)
theorem gridB_facts {r c : Int} {xs : List Int} (h : gridB r c xs = true) : sizeB r c xs.length := by
  unfold gridB at h
  simp at h
  exact h.1
theorem place_at {r c row col : Int} (hr : 1 ≤ r ∧ r ≤ 40000) (hc : 1 ≤ c ∧ c ≤ 40000) (h : placeB r c row col) : 0 ≤ row * c ∧ row * c ≤ 1600000000 ∧ 0 ≤ row * c + col ∧ row * c + col < r * c := by
  obtain ⟨⟨h1, h2⟩, h3, h4⟩ := h
  have a := Int.mul_nonneg h1 (show 0 ≤ c by omega)
  have b : row * c ≤ (r - 1) * c := Int.mul_le_mul_of_nonneg_right h2 (by omega)
  rw [Int.sub_mul] at b
  have d := mul_bd hr hc
  omega
end Go.Proofs.Ytckmenjbblgiiaa
