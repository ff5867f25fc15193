/-
  Contracts: a cell of a grid; the law's grid as the program's; equal grids.
  Conditions: none.
-/
import Derived.Test.YtagdkaigdehohaaGrid
set_option linter.unusedVariables false
namespace Go.Proofs.Ytagdkaigdehohaa
open Go.RowKit Go.G8
theorem keep3 {W W' : World} {b : Nat} {u0 u1 u2 : Value} (hb : Below W.heap.size W W') (hlt : b < W.heap.size) (c0 : W.cell? ⟨b, 0, none⟩ = some u0) (c1 : W.cell? ⟨b, 1, none⟩ = some u1) (c2 : W.cell? ⟨b, 2, none⟩ = some u2) : W'.cell? ⟨b, 0, none⟩ = some u0 ∧ W'.cell? ⟨b, 1, none⟩ = some u1 ∧ W'.cell? ⟨b, 2, none⟩ = some u2 ∧ b < W'.heap.size := by
  obtain ⟨hcc, hff⟩ := bcell hb
  exact ⟨(hcc _ 0 hlt).trans c0, (hcc _ 1 hlt).trans c1, (hcc _ 2 hlt).trans c2, Nat.lt_of_lt_of_le hlt hb.size⟩
def placeB (r c row col : Int) : Prop := (0 ≤ row ∧ row ≤ r - 1) ∧ (0 ≤ col ∧ col ≤ c - 1)
instance (r c row col : Int) : Decidable (placeB r c row col) := by unfold placeB; exact inferInstance
def rCellAt (r c : Int) (xs : List Int) (row col : Int) : Int × Int :=
  if gridB r c xs = false then (0, 1) else if ¬ placeB r c row col then (0, 2) else (xs[(row * c + col).toNat]?.getD 0, 0)
theorem gridB_facts {r c : Int} {xs : List Int} (h : gridB r c xs = true) : sizeB r c xs.length := by
  unfold gridB at h
  simp at h
  exact h.1
theorem place_at {r c row col : Int} (hr : 1 ≤ r ∧ r ≤ 40000) (hc : 1 ≤ c ∧ c ≤ 40000) (h : placeB r c row col) : 0 ≤ row * c ∧ row * c ≤ 1600000000 ∧ 0 ≤ row * c + col ∧ row * c + col < r * c := by
  obtain ⟨⟨h1, h2⟩, h3, h4⟩ := h
  have a := Int.mul_nonneg h1 (show 0 ≤ c by omega)
  have b : row * c ≤ (r - 1) * c := Int.mul_le_mul_of_nonneg_right h2 (by omega)
  rw [Int.sub_mul] at b
  have d := mul_bd hr hc
  omega
set_option maxHeartbeats 1000000 in
theorem specCellAt_any (r c : Int) (a : Option Addr) (n k : Nat) (xs : List Int) (row col : Int) (w : World) (h : Rd .i64 w a n xs) (hn : n ≤ 1000000000) :
    Calls Try.prog 22 #[.agg #[.int .i64 r, .int .i64 c, .slice a n k], .int .i64 row, .int .i64 col] w (Ret (.tuple #[.int .i64 (rCellAt r c xs row col).1, .int .i64 (rCellAt r c xs row col).2]) w) := by
  have HL := Lib.hid h.len
  obtain ⟨hw0, hlt0, c0, c1, c2⟩ := grid_start w (.int .i64 r) (.int .i64 c) (.slice a n k) 28
  have HR0 := Lib.hid (h.to hw0)
  cases hg : gridB r c xs with
  | false =>
    have hr := Lib.hid (show rCellAt r c xs row col = (0, 1) by unfold rCellAt; rw [if_pos hg])
    go_enter Try.func22, Try.ntmps22
    go_wp2_with fail
    refine (specIsGrid_any r c a n k xs _ HR0.out hn).mono ?_
    rw [hg]
    rintro e w1 ⟨rfl, hb1⟩
    have hB := bt hw0 hb1
    go_wp2_with fail
    go_ret2
    exact ⟨ret2_int hr.out, hB⟩
  | true =>
    obtain ⟨hr1, hc1, hp1, hp2⟩ := gridB_facts hg
    by_cases hp : placeB r c row col
    · obtain ⟨m1, m2, m3, m4⟩ := place_at hr1 hc1 hp
      obtain ⟨I, hI⟩ : ∃ I : Nat, row * c + col = (I : Int) := Int.eq_ofNat_of_zero_le m3
      have e1 : IntKind.i64.wrap (row * c) = row * c := IntWalk.i64_in _ (by omega)
      have e2 : IntKind.i64.wrap (row * c + col) = (I : Int) := by rw [hI]; exact IntWalk.i64_in _ (by omega)
      have hIn : I < n := by have := HL.out; omega
      obtain ⟨b, o, x, rfl, hbl, hcell, hx, hx1, hx2⟩ := h.at_ hIn
      have hr := Lib.hid (show rCellAt r c xs row col = (x, 0) by
        unfold rCellAt
        rw [if_neg (by simp [hg]), if_neg (fun e => e hp), hI, Int.toNat_natCast, hx.out]
        rfl)
      obtain ⟨hp3, hp4⟩ := hp
      have b1 : (0 : Int) ≤ (I : Int) := by omega
      have b2 : (I : Int) < (n : Int) := by omega
      clear m1 m2 m3 m4 hI hp1 hp2
      go_enter Try.func22, Try.ntmps22
      go_wp2_with fail
      refine (specIsGrid_any r c _ n k xs _ HR0.out hn).mono ?_
      rw [hg]
      rintro e w1 ⟨rfl, hb1⟩
      have hB := bt hw0 hb1
      have hcell1 := (hB.cell (p := ⟨b, o + I, none⟩) hbl).trans hcell
      obtain ⟨d0, d1, d2, d3⟩ := keep3 hb1 hlt0 c0 c1 c2
      clear hb1 c0 c1 c2 hcell
      go_wp2_with (go_at_call 61; refine (l01In_yes _ _ _ _ (by omega)).mono ?_; rintro e w' ⟨rfl, rfl⟩)
      go_ret2
      exact ⟨ret2_int hr.out, hB⟩
    · have hr := Lib.hid (show rCellAt r c xs row col = (0, 2) by
        unfold rCellAt
        rw [if_neg (by simp [hg]), if_pos hp])
      by_cases hp3 : 0 ≤ row ∧ row ≤ r - 1
      · have hp4 : ¬ (0 ≤ col ∧ col ≤ c - 1) := fun e => hp ⟨hp3, e⟩
        clear hp
        go_enter Try.func22, Try.ntmps22
        go_wp2_with fail
        refine (specIsGrid_any r c a n k xs _ HR0.out hn).mono ?_
        rw [hg]
        rintro e w1 ⟨rfl, hb1⟩
        have hB := bt hw0 hb1
        obtain ⟨d0, d1, d2, d3⟩ := keep3 hb1 hlt0 c0 c1 c2
        clear hb1 c0 c1 c2
        go_wp2_with (first | (go_at_call 61; refine (l01In_yes _ _ _ _ (by omega)).mono ?_; rintro e w' ⟨rfl, rfl⟩) | (go_at_call 61; refine (l01In_no _ _ _ _ (by omega)).mono ?_; rintro e w' ⟨rfl, rfl⟩))
        go_ret2
        exact ⟨ret2_int hr.out, hB⟩
      · clear hp
        go_enter Try.func22, Try.ntmps22
        go_wp2_with fail
        refine (specIsGrid_any r c a n k xs _ HR0.out hn).mono ?_
        rw [hg]
        rintro e w1 ⟨rfl, hb1⟩
        have hB := bt hw0 hb1
        obtain ⟨d0, d1, d2, d3⟩ := keep3 hb1 hlt0 c0 c1 c2
        clear hb1 c0 c1 c2
        go_wp2_with (go_at_call 61; refine (l01In_no _ _ _ _ (by omega)).mono ?_; rintro e w' ⟨rfl, rfl⟩)
        go_ret2
        exact ⟨ret2_int hr.out, hB⟩
end Go.Proofs.Ytagdkaigdehohaa
