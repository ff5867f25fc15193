/-
  Contracts: the code of a field and elements, by the reference and by the program.
  Conditions: none.
-/
import Derived.Test.YtjdnaoidlblciaaElem
set_option linter.unusedVariables false
namespace Go.Proofs.Ytjdnaoidlblciaa
open Go.RowKit Go.G8
theorem codeF_bad {p q y : Int} {xs : List Int} (h : fieldB p q y = false) : codeF p q y xs = 1 := by unfold codeF; rw [h]; rfl
theorem codeF_out {p q y : Int} {xs : List Int} (h : fieldB p q y = true) (h2 : allF (fsize p q) xs = false) : codeF p q y xs = 2 := by unfold codeF; rw [h, h2]; rfl
theorem codeF_ok {p q y : Int} {xs : List Int} (h : fieldB p q y = true) (h2 : allF (fsize p q) xs = true) : codeF p q y xs = 0 := by unfold codeF; rw [h, h2]; rfl
def ElemRes (T : TypeId) (p q y : Int) (xs : List Int) (w : World) (e : Ending) (w' : World) : Prop :=
  ∃ o : Option Addr, e = .returned (.tuple #[.pointer o, .int .i64 (codeF p q y xs)]) ∧ Below w.heap.size w w' ∧
    (codeF p q y xs = 0 → ∃ G, o = some ⟨G, 0, none⟩ ∧ w.heap.size ≤ G ∧ Tab T w' G (!decide (q = 1)) (fsize p q) (expT (tF p q y) (fN p q)) (logT (tF p q y) (fN p q)))
theorem l02Code_any (p q y : Int) (a : Option Addr) (n c : Nat) (xs : List Int) (w : World) (hr : Rd .i64 w a n xs) (hn : n ≤ 1000000000) :
    Calls Try.prog 69 #[.agg #[.int .i64 p, .int .i64 q, .int .i64 y], .slice a n c] w (RetB (.int .i64 (codeF p q y xs)) w) := by
  cases h : fieldB p q y with
  | true =>
    go_enter Try.func69, Try.ntmps69
    go_wp2_with (go_at_call 64; refine (isField_spec p q y _).mono ?_; rw [h]; rintro e w1 ⟨rfl, hb1⟩; obtain ⟨hcc, hff⟩ := bcell hb1; have hd0 := (hcc w.heap.size 0 (by simp)).trans (show _ = some (Value.int .i64 p) from by rw [cell_of_row _ _ _ _ _ (0, 0) (heap_alloc_new w _)]; rfl); have hd1 := (hcc w.heap.size 1 (by simp)).trans (show _ = some (Value.int .i64 q) from by rw [cell_of_row _ _ _ _ _ (0, 0) (heap_alloc_new w _)]; rfl); have hd2 := (hcc w.heap.size 2 (by simp)).trans (show _ = some (Value.int .i64 y) from by rw [cell_of_row _ _ _ _ _ (0, 0) (heap_alloc_new w _)]; rfl))
    have hB := bt (Below.alloc (Below.refl w.heap.size w) (Nat.le_refl _) _) hb1
    cases h2 : allF (fsize p q) xs with
    | true =>
      have HS := Lib.hid (codeF_ok h h2)
      go_wp2_with fail
      refine (l02Is_any p q y a n c xs _ h (hr.to hB) hn).mono ?_
      rw [h2]
      rintro e w2 ⟨rfl, hb2⟩
      go_wp2_with fail
      go_ret
      exact ⟨ret_int (by rw [HS.out]), bt hB hb2⟩
    | false =>
      have HS := Lib.hid (codeF_out h h2)
      go_wp2_with fail
      refine (l02Is_any p q y a n c xs _ h (hr.to hB) hn).mono ?_
      rw [h2]
      rintro e w2 ⟨rfl, hb2⟩
      go_wp2_with fail
      go_ret
      exact ⟨ret_int (by rw [HS.out]), bt hB hb2⟩
  | false =>
    have HS := Lib.hid (codeF_bad (xs := xs) h)
    go_enter Try.func69, Try.ntmps69
    go_wp2_with (go_at_call 64; refine (isField_spec p q y _).mono ?_; rw [h]; rintro e w1 ⟨rfl, hb1⟩)
    go_ret
    exact ⟨ret_int (by rw [HS.out]), bt (Below.alloc (Below.refl _ _) (Nat.le_refl _) _) hb1⟩
theorem elements_any (p q y : Int) (a : Option Addr) (n c : Nat) (xs : List Int) (w : World) (hr : Rd .i64 w a n xs) (hn : n ≤ 1000000000) :
    Calls Try.prog 67 #[.agg #[.int .i64 p, .int .i64 q, .int .i64 y], .slice a n c] w (ElemRes 87 p q y xs w) := by
  cases h : fieldB p q y with
  | true =>
    go_enter Try.func67, Try.ntmps67
    go_wp2_with (go_at_call 65; refine (calc_spec p q y _).mono ?_; unfold CalcRes; rw [h]; rintro e w1 ⟨o, rfl, hb1, hrr⟩; obtain ⟨G, rfl, hG, htab⟩ := hrr rfl; have hsz := htab.size_; have hlt := htab.lt)
    have hB := bt (Below.alloc (Below.refl w.heap.size w) (Nat.le_refl _) _) hb1
    cases h2 : allF (fsize p q) xs with
    | true =>
      have HS := Lib.hid (codeF_ok h h2)
      go_wp2_with fail
      refine (hasAll_any G (fsize p q) a n c xs _ (fsize_bd h) hsz (hr.to hB) hn).mono ?_
      rw [h2]
      rintro e w2 ⟨rfl, rfl⟩
      go_wp2_with fail
      go_ret2
      exact ⟨_, by rw [HS.out]; rfl, hB, fun _ => ⟨G, rfl, by simp at hG; omega, htab⟩⟩
    | false =>
      have HS := Lib.hid (codeF_out h h2)
      go_wp2_with fail
      refine (hasAll_any G (fsize p q) a n c xs _ (fsize_bd h) hsz (hr.to hB) hn).mono ?_
      rw [h2]
      rintro e w2 ⟨rfl, rfl⟩
      go_wp2_with fail
      go_ret2
      exact ⟨none, by rw [HS.out]; rfl, hB, fun hz => by rw [HS.out] at hz; omega⟩
  | false =>
    have HS := Lib.hid (codeF_bad (xs := xs) h)
    go_enter Try.func67, Try.ntmps67
    go_wp2_with (go_at_call 65; refine (calc_spec p q y _).mono ?_; unfold CalcRes; rw [h]; rintro e w1 ⟨o, rfl, hb1, hrr⟩)
    go_ret2
    exact ⟨none, by rw [HS.out]; rfl, bt (Below.alloc (Below.refl w.heap.size w) (Nat.le_refl _) _) hb1, fun hz => by rw [HS.out] at hz; omega⟩
end Go.Proofs.Ytjdnaoidlblciaa
