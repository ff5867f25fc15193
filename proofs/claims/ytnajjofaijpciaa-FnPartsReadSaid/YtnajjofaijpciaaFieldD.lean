/-
  The contract of the program's own arithmetic of a field.
  Conditions: none.
-/
import Derived.Test.YtnajjofaijpciaaFieldC
set_option linter.unusedVariables false
namespace Go.Proofs.Ytnajjofaijpciaa
open Go.RowKit Go.G8
theorem bin_world (w : World) (A B : Array Value) (T1 T2 T3 : TypeId) (v u : Value) (b : Bool) (size : Int) (hB : TabCells B b size (fun _ => 0) (fun _ => 0)) (hu : A[2]? = some u) :
    Tab T2 (((w.alloc (Obj.cells A T1)).alloc (Obj.cells B T2)).alloc (Obj.cells #[v] T3)) (w.heap.size + 1) b size (fun _ => 0) (fun _ => 0) ∧
    (((w.alloc (Obj.cells A T1)).alloc (Obj.cells B T2)).alloc (Obj.cells #[v] T3)).cell? ⟨w.heap.size + 1 + 1, 0, none⟩ = some v ∧
    (((w.alloc (Obj.cells A T1)).alloc (Obj.cells B T2)).alloc (Obj.cells #[v] T3)).cell? ⟨w.heap.size, 2, none⟩ = some u := by
  refine ⟨?_, ?_, ?_⟩
  · have h := tab_new (T := T2) (w.alloc (Obj.cells A T1)) hB
    have := h.to (Below.alloc (Below.refl _ _) (Nat.le_refl _) (Obj.cells #[v] T3))
    simpa using this
  · have := alloc_cell ((w.alloc (Obj.cells A T1)).alloc (Obj.cells B T2)) v T3
    simpa using this
  · rw [alloc_cell_old _ _ _ _ (by simp <;> omega), alloc_cell_old _ _ _ _ (by simp), cell_of_row _ _ _ _ _ (0, 0) (heap_alloc_new w _), hu]
theorem binB_in {y : Int} {P : Nat} (h : (2 : Int) ^ P ≤ y ∧ y < 2 * 2 ^ P) : binB P y = okT (tB P y.toNat) (2 ^ P - 1) := by
  unfold binB runB; rw [decide_eq_true h]; simp
theorem calc_bin (P : Nat) (y : Int) (w : World) (hP : P = 3 ∨ P = 4 ∨ P = 5 ∨ P = 6 ∨ P = 7 ∨ P = 8) (h : (2 : Int) ^ P ≤ y ∧ y < 2 * 2 ^ P) :
    Calls Try.prog 63 #[.agg #[.int .i64 2, .int .i64 P, .int .i64 y]] w (CalcRes 113 2 P y w) := by
  have HF := Lib.hid ((fieldB_two (y := y) (P := P) (by omega)).trans (binB_in h))
  have HG := Lib.hid (show Gf.Good P y.toNat from by
    obtain ⟨h1, h2⟩ := h
    have e : ((2 ^ P : Nat) : Int) = (2 : Int) ^ P := Int.natCast_pow 2 P
    have e2 : 2 ^ (P + 1) = 2 * 2 ^ P := by rw [Nat.pow_succ, Nat.mul_comm]
    exact ⟨by omega, by omega⟩)
  obtain ⟨h1, h2⟩ := h
  rcases hP with rfl | rfl | rfl | rfl | rfl | rfl
  · have hs : (y / 8 == 1) = true := by rw [beq_iff_eq]; omega
    have HY := Lib.hid (show ((y.toNat : Nat) : Int) = y by omega)
    have HW := Lib.hid (bin_world w #[Value.int IntKind.i64 2, Value.int IntKind.i64 3, Value.int IntKind.i64 y] ((Try.zeroCells113.setIfInBounds 0 (Value.bool true)).setIfInBounds 1 (Value.int IntKind.i64 8)) 36 113 90 (Value.pointer (some ⟨w.heap.size + 1, 0, none⟩)) (Value.int IntKind.i64 y) true 8 (zero_both true 8) rfl)
    go_enter Try.func63, Try.ntmps63
    go_wp2_with (go_at_call 33; refine (inRange_yes 3 3 8 _ (by omega)).mono ?_; rintro e w' ⟨rfl, rfl⟩)
    go_wp2_with (go_at_call 81; go_loud (refine (fillB (w.heap.size + 1) true 7 3 y.toNat (w.heap.size + 1 + 1) w.heap.size _ (by omega) HG.out (by decide) HW.out.1 (by omega) (by omega) HW.out.2.1 (by rw [HY.out]; exact HW.out.2.2)).mono ?_; rintro e w' ⟨E, L, rfl, htab, hEL, hgr⟩; have hcv := (World.cell?_of_block (a := ⟨w.heap.size + 1 + 1, 0, none⟩) (hgr.block (w.heap.size + 1 + 1) (by simp <;> omega) (by intro e; have := Option.some.inj e; omega))).trans HW.out.2.1))
    go_ret2
    refine ⟨_, ?_, ?_, fun hf => ⟨w.heap.size + 1, rfl, by omega, ?_⟩⟩
    · rw [HF.out]; rfl
    · refine Below.grown ?_ hgr (by simp <;> omega) (fun k e => by have := Option.some.inj e; omega)
      refine Below.alloc ?_ (by simp <;> omega) _
      refine Below.alloc ?_ (by simp) _
      exact Below.alloc (Below.refl _ _) (Nat.le_refl _) _
    · rw [HF.out] at hf
      obtain ⟨rfl, rfl⟩ := hEL hf
      exact htab
  · have hs : (y / 16 == 1) = true := by rw [beq_iff_eq]; omega
    have HY := Lib.hid (show ((y.toNat : Nat) : Int) = y by omega)
    have HW := Lib.hid (bin_world w #[Value.int IntKind.i64 2, Value.int IntKind.i64 4, Value.int IntKind.i64 y] ((Try.zeroCells113.setIfInBounds 0 (Value.bool true)).setIfInBounds 1 (Value.int IntKind.i64 16)) 36 113 90 (Value.pointer (some ⟨w.heap.size + 1, 0, none⟩)) (Value.int IntKind.i64 y) true 16 (zero_both true 16) rfl)
    go_enter Try.func63, Try.ntmps63
    go_wp2_with (go_at_call 33; refine (inRange_yes 4 3 8 _ (by omega)).mono ?_; rintro e w' ⟨rfl, rfl⟩)
    go_wp2_with (go_at_call 81; go_loud (refine (fillB (w.heap.size + 1) true 15 4 y.toNat (w.heap.size + 1 + 1) w.heap.size _ (by omega) HG.out (by decide) HW.out.1 (by omega) (by omega) HW.out.2.1 (by rw [HY.out]; exact HW.out.2.2)).mono ?_; rintro e w' ⟨E, L, rfl, htab, hEL, hgr⟩; have hcv := (World.cell?_of_block (a := ⟨w.heap.size + 1 + 1, 0, none⟩) (hgr.block (w.heap.size + 1 + 1) (by simp <;> omega) (by intro e; have := Option.some.inj e; omega))).trans HW.out.2.1))
    go_ret2
    refine ⟨_, ?_, ?_, fun hf => ⟨w.heap.size + 1, rfl, by omega, ?_⟩⟩
    · rw [HF.out]; rfl
    · refine Below.grown ?_ hgr (by simp <;> omega) (fun k e => by have := Option.some.inj e; omega)
      refine Below.alloc ?_ (by simp <;> omega) _
      refine Below.alloc ?_ (by simp) _
      exact Below.alloc (Below.refl _ _) (Nat.le_refl _) _
    · rw [HF.out] at hf
      obtain ⟨rfl, rfl⟩ := hEL hf
      exact htab
  · have hs : (y / 32 == 1) = true := by rw [beq_iff_eq]; omega
    have HY := Lib.hid (show ((y.toNat : Nat) : Int) = y by omega)
    have HW := Lib.hid (bin_world w #[Value.int IntKind.i64 2, Value.int IntKind.i64 5, Value.int IntKind.i64 y] ((Try.zeroCells113.setIfInBounds 0 (Value.bool true)).setIfInBounds 1 (Value.int IntKind.i64 32)) 36 113 90 (Value.pointer (some ⟨w.heap.size + 1, 0, none⟩)) (Value.int IntKind.i64 y) true 32 (zero_both true 32) rfl)
    go_enter Try.func63, Try.ntmps63
    go_wp2_with (go_at_call 33; refine (inRange_yes 5 3 8 _ (by omega)).mono ?_; rintro e w' ⟨rfl, rfl⟩)
    go_wp2_with (go_at_call 81; go_loud (refine (fillB (w.heap.size + 1) true 31 5 y.toNat (w.heap.size + 1 + 1) w.heap.size _ (by omega) HG.out (by decide) HW.out.1 (by omega) (by omega) HW.out.2.1 (by rw [HY.out]; exact HW.out.2.2)).mono ?_; rintro e w' ⟨E, L, rfl, htab, hEL, hgr⟩; have hcv := (World.cell?_of_block (a := ⟨w.heap.size + 1 + 1, 0, none⟩) (hgr.block (w.heap.size + 1 + 1) (by simp <;> omega) (by intro e; have := Option.some.inj e; omega))).trans HW.out.2.1))
    go_ret2
    refine ⟨_, ?_, ?_, fun hf => ⟨w.heap.size + 1, rfl, by omega, ?_⟩⟩
    · rw [HF.out]; rfl
    · refine Below.grown ?_ hgr (by simp <;> omega) (fun k e => by have := Option.some.inj e; omega)
      refine Below.alloc ?_ (by simp <;> omega) _
      refine Below.alloc ?_ (by simp) _
      exact Below.alloc (Below.refl _ _) (Nat.le_refl _) _
    · rw [HF.out] at hf
      obtain ⟨rfl, rfl⟩ := hEL hf
      exact htab
  · have hs : (y / 64 == 1) = true := by rw [beq_iff_eq]; omega
    have HY := Lib.hid (show ((y.toNat : Nat) : Int) = y by omega)
    have HW := Lib.hid (bin_world w #[Value.int IntKind.i64 2, Value.int IntKind.i64 6, Value.int IntKind.i64 y] ((Try.zeroCells113.setIfInBounds 0 (Value.bool true)).setIfInBounds 1 (Value.int IntKind.i64 64)) 36 113 90 (Value.pointer (some ⟨w.heap.size + 1, 0, none⟩)) (Value.int IntKind.i64 y) true 64 (zero_both true 64) rfl)
    go_enter Try.func63, Try.ntmps63
    go_wp2_with (go_at_call 33; refine (inRange_yes 6 3 8 _ (by omega)).mono ?_; rintro e w' ⟨rfl, rfl⟩)
    go_wp2_with (go_at_call 81; go_loud (refine (fillB (w.heap.size + 1) true 63 6 y.toNat (w.heap.size + 1 + 1) w.heap.size _ (by omega) HG.out (by decide) HW.out.1 (by omega) (by omega) HW.out.2.1 (by rw [HY.out]; exact HW.out.2.2)).mono ?_; rintro e w' ⟨E, L, rfl, htab, hEL, hgr⟩; have hcv := (World.cell?_of_block (a := ⟨w.heap.size + 1 + 1, 0, none⟩) (hgr.block (w.heap.size + 1 + 1) (by simp <;> omega) (by intro e; have := Option.some.inj e; omega))).trans HW.out.2.1))
    go_ret2
    refine ⟨_, ?_, ?_, fun hf => ⟨w.heap.size + 1, rfl, by omega, ?_⟩⟩
    · rw [HF.out]; rfl
    · refine Below.grown ?_ hgr (by simp <;> omega) (fun k e => by have := Option.some.inj e; omega)
      refine Below.alloc ?_ (by simp <;> omega) _
      refine Below.alloc ?_ (by simp) _
      exact Below.alloc (Below.refl _ _) (Nat.le_refl _) _
    · rw [HF.out] at hf
      obtain ⟨rfl, rfl⟩ := hEL hf
      exact htab
  · have hs : (y / 128 == 1) = true := by rw [beq_iff_eq]; omega
    have HY := Lib.hid (show ((y.toNat : Nat) : Int) = y by omega)
    have HW := Lib.hid (bin_world w #[Value.int IntKind.i64 2, Value.int IntKind.i64 7, Value.int IntKind.i64 y] ((Try.zeroCells113.setIfInBounds 0 (Value.bool true)).setIfInBounds 1 (Value.int IntKind.i64 128)) 36 113 90 (Value.pointer (some ⟨w.heap.size + 1, 0, none⟩)) (Value.int IntKind.i64 y) true 128 (zero_both true 128) rfl)
    go_enter Try.func63, Try.ntmps63
    go_wp2_with (go_at_call 33; refine (inRange_yes 7 3 8 _ (by omega)).mono ?_; rintro e w' ⟨rfl, rfl⟩)
    go_wp2_with (go_at_call 81; go_loud (refine (fillB (w.heap.size + 1) true 127 7 y.toNat (w.heap.size + 1 + 1) w.heap.size _ (by omega) HG.out (by decide) HW.out.1 (by omega) (by omega) HW.out.2.1 (by rw [HY.out]; exact HW.out.2.2)).mono ?_; rintro e w' ⟨E, L, rfl, htab, hEL, hgr⟩; have hcv := (World.cell?_of_block (a := ⟨w.heap.size + 1 + 1, 0, none⟩) (hgr.block (w.heap.size + 1 + 1) (by simp <;> omega) (by intro e; have := Option.some.inj e; omega))).trans HW.out.2.1))
    go_ret2
    refine ⟨_, ?_, ?_, fun hf => ⟨w.heap.size + 1, rfl, by omega, ?_⟩⟩
    · rw [HF.out]; rfl
    · refine Below.grown ?_ hgr (by simp <;> omega) (fun k e => by have := Option.some.inj e; omega)
      refine Below.alloc ?_ (by simp <;> omega) _
      refine Below.alloc ?_ (by simp) _
      exact Below.alloc (Below.refl _ _) (Nat.le_refl _) _
    · rw [HF.out] at hf
      obtain ⟨rfl, rfl⟩ := hEL hf
      exact htab
  · have hs : (y / 256 == 1) = true := by rw [beq_iff_eq]; omega
    have HY := Lib.hid (show ((y.toNat : Nat) : Int) = y by omega)
    have HW := Lib.hid (bin_world w #[Value.int IntKind.i64 2, Value.int IntKind.i64 8, Value.int IntKind.i64 y] ((Try.zeroCells113.setIfInBounds 0 (Value.bool true)).setIfInBounds 1 (Value.int IntKind.i64 256)) 36 113 90 (Value.pointer (some ⟨w.heap.size + 1, 0, none⟩)) (Value.int IntKind.i64 y) true 256 (zero_both true 256) rfl)
    go_enter Try.func63, Try.ntmps63
    go_wp2_with (go_at_call 33; refine (inRange_yes 8 3 8 _ (by omega)).mono ?_; rintro e w' ⟨rfl, rfl⟩)
    go_wp2_with (go_at_call 81; go_loud (refine (fillB (w.heap.size + 1) true 255 8 y.toNat (w.heap.size + 1 + 1) w.heap.size _ (by omega) HG.out (by decide) HW.out.1 (by omega) (by omega) HW.out.2.1 (by rw [HY.out]; exact HW.out.2.2)).mono ?_; rintro e w' ⟨E, L, rfl, htab, hEL, hgr⟩; have hcv := (World.cell?_of_block (a := ⟨w.heap.size + 1 + 1, 0, none⟩) (hgr.block (w.heap.size + 1 + 1) (by simp <;> omega) (by intro e; have := Option.some.inj e; omega))).trans HW.out.2.1))
    go_ret2
    refine ⟨_, ?_, ?_, fun hf => ⟨w.heap.size + 1, rfl, by omega, ?_⟩⟩
    · rw [HF.out]; rfl
    · refine Below.grown ?_ hgr (by simp <;> omega) (fun k e => by have := Option.some.inj e; omega)
      refine Below.alloc ?_ (by simp <;> omega) _
      refine Below.alloc ?_ (by simp) _
      exact Below.alloc (Below.refl _ _) (Nat.le_refl _) _
    · rw [HF.out] at hf
      obtain ⟨rfl, rfl⟩ := hEL hf
      exact htab
theorem calc_spec (p q y : Int) (w : World) : Calls Try.prog 63 #[.agg #[.int .i64 p, .int .i64 q, .int .i64 y]] w (CalcRes 113 p q y w) := by
  by_cases hq : q = 1
  · subst hq
    by_cases hp : 3 ≤ p ∧ p ≤ 1021
    · cases hb : primeB p with
      | true => exact calc_prime p y w hp hb
      | false => exact calc_nop p y w hp hb
    · exact calc_nor p y w hp
  · by_cases h : p = 2 ∧ 3 ≤ q ∧ q ≤ 8
    · obtain ⟨rfl, h1, h2⟩ := h
      obtain ⟨P, rfl⟩ := Int.eq_ofNat_of_zero_le (show 0 ≤ q by omega)
      by_cases hy : (2 : Int) ^ P ≤ y ∧ y < 2 * 2 ^ P
      · exact calc_bin P y w (by omega) hy
      · exact calc_bout P y w (by omega) hy
    · exact calc_no p q y w hq h
end Go.Proofs.Ytnajjofaijpciaa
