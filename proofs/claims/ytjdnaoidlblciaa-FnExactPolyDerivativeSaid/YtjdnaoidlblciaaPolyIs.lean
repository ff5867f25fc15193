/-
  Contracts: whether a list is a polynomial over a field, by the reference and by the program.
  Conditions: none.
-/
import Derived.Test.YtjdnaoidlblciaaElemB
set_option linter.unusedVariables false
namespace Go.Proofs.Ytjdnaoidlblciaa
open Go.RowKit Go.G8
theorem start3 (w : World) (a b c : Value) (T : TypeId) : Below w.heap.size w (w.alloc (.cells #[a, b, c] T)) ∧ w.heap.size < (w.alloc (.cells #[a, b, c] T)).heap.size ∧
    (w.alloc (.cells #[a, b, c] T)).cell? ⟨w.heap.size, 0, none⟩ = some a ∧ (w.alloc (.cells #[a, b, c] T)).cell? ⟨w.heap.size, 1, none⟩ = some b ∧ (w.alloc (.cells #[a, b, c] T)).cell? ⟨w.heap.size, 2, none⟩ = some c := by
  refine ⟨Below.alloc (Below.refl _ _) (Nat.le_refl _) _, by simp, ?_, ?_, ?_⟩ <;> rw [cell_of_row _ _ _ _ _ (0, 0) (heap_alloc_new w _)] <;> rfl
theorem two_blocks2 (w : World) (A B : Array Value) (T E : TypeId) (v : Value) (hB : B = #[v]) :
    Below w.heap.size w ((w.alloc (.cells A T)).alloc (.cells B E)) ∧ ((w.alloc (.cells A T)).alloc (.cells B E)).cell? ⟨w.heap.size + 1, 0, none⟩ = some v ∧
    (∀ i u, A[i]? = some u → ((w.alloc (.cells A T)).alloc (.cells B E)).cell? ⟨w.heap.size, i, none⟩ = some u) ∧ w.heap.size < ((w.alloc (.cells A T)).alloc (.cells B E)).heap.size := by
  subst hB
  refine ⟨Below.alloc (Below.alloc (Below.refl w.heap.size w) (Nat.le_refl _) _) (by simp) _, ?_, fun i u hv => ?_, by simp; omega⟩
  · have h := alloc_cell (w.alloc (.cells A T)) v E
    rw [show (w.alloc (.cells A T)).heap.size = w.heap.size + 1 by simp] at h
    exact h
  · rw [alloc_cell_old _ _ _ _ (by simp), cell_of_row _ _ _ _ _ (0, 0) (heap_alloc_new w _), hv]
def lastNZ (xs : List Int) : Bool := match xs.getLast? with | none => true | some x => x != 0
def polyB (s : Int) (xs : List Int) : Bool := decide (xs.length ≤ 512) && (allF s xs && lastNZ xs)
theorem polyB_long {s : Int} {xs : List Int} (h : ¬ xs.length ≤ 512) : polyB s xs = false := by unfold polyB; rw [decide_eq_false h]; rfl
theorem polyB_out {s : Int} {xs : List Int} (h : allF s xs = false) : polyB s xs = false := by unfold polyB; rw [h]; simp
theorem polyB_nil {s : Int} : polyB s [] = true := rfl
theorem polyB_last {s x : Int} {xs : List Int} {n : Nat} (h : xs.length ≤ 512) (h2 : allF s xs = true) (hn : xs.length = n + 1) (hx : xs[n]? = some x) : polyB s xs = (x != 0) := by
  unfold polyB lastNZ
  rw [decide_eq_true h, h2, List.getLast?_eq_getElem?, show xs.length - 1 = n by omega, hx]
  rfl
set_option maxHeartbeats 1000000 in
theorem l03Is_any (p q y : Int) (a : Option Addr) (n c : Nat) (xs : List Int) (w : World) (hf : fieldB p q y = true) (h : Rd .i64 w a n xs) (hn : n ≤ 1000000000) :
    Calls Try.prog 111 #[.agg #[.int .i64 p, .int .i64 q, .int .i64 y], .slice a n c] w (RetB (.bool (polyB (fsize p q) xs)) w) := by
  have HL := Lib.hid h.len
  by_cases hl : n ≤ 512
  · have HI := Lib.hid (fun w h => l02Is_any p q y a n c xs w hf h hn)
    obtain ⟨s, hs⟩ : ∃ s, fsize p q = s := ⟨_, rfl⟩
    rw [hs] at HI ⊢
    clear hs hf
    have hw0 : Below w.heap.size w (w.alloc (.cells #[.int .i64 p, .int .i64 q, .int .i64 y] 26)) := Below.alloc (Below.refl _ _) (Nat.le_refl _) _
    have HR := Lib.hid (h.to hw0)
    have HW := Lib.hid hw0
    have h0 := Lib.hid h
    clear h hw0
    cases hb : allF s xs with
    | false =>
      have hr := Lib.hid (polyB_out hb)
      go_enter Try.func111, Try.ntmps111
      go_wp2_with fail
      refine (HI.out _ HR.out).mono ?_
      rw [hb]
      rintro e w1 ⟨rfl, hb1⟩
      go_wp2_with fail
      go_ret
      exact ⟨ret_bool hr.out.symm, bt HW.out hb1⟩
    | true =>
      by_cases h00 : n = 0
      · subst h00
        obtain rfl := List.eq_nil_of_length_eq_zero HL.out
        have hr := Lib.hid (polyB_nil (s := s))
        go_enter Try.func111, Try.ntmps111
        go_wp2_with fail
        refine (HI.out _ HR.out).mono ?_
        rw [hb]
        rintro e w1 ⟨rfl, hb1⟩
        go_wp2_with fail
        go_ret
        exact ⟨ret_bool hr.out.symm, bt HW.out hb1⟩
      · obtain ⟨m, hm⟩ : ∃ m, n = m + 1 := ⟨n - 1, by omega⟩
        obtain ⟨b, o, x, rfl, hbl, hcell, hx, hx1, hx2⟩ := h0.out.at_ (show m < n by omega)
        have hr := Lib.hid (polyB_last (s := s) (by rw [HL.out]; exact hl) hb (HL.out.trans hm) hx.out)
        have hn0 : ((n : Int) == 0) = false := by rw [beq_eq_false_iff_ne]; omega
        have hn1 : IntKind.i64.wrap ((n : Int) - 1) = (m : Int) := (IntWalk.i64_in _ (by omega)).trans (by omega)
        have b1 : (0 : Int) ≤ (m : Int) := by omega
        have b2 : (m : Int) < (n : Int) := by omega
        clear hm h00
        go_enter Try.func111, Try.ntmps111
        go_wp2_with fail
        refine (HI.out _ HR.out).mono ?_
        rw [hb]
        rintro e w1 ⟨rfl, hb1⟩
        have hcl := ((bt HW.out hb1).cell (p := ⟨b, o + m, none⟩) hbl).trans hcell
        have hB := bt HW.out hb1
        clear hb1 hcell
        go_wp2_with fail
        go_ret
        exact ⟨ret_bool hr.out.symm, hB⟩
  · have hr := Lib.hid (polyB_long (s := fsize p q) (by rw [HL.out]; exact hl))
    have hl2 : 512 < n := by omega
    clear hl
    go_enter Try.func111, Try.ntmps111
    go_wp2_with fail
    go_ret
    exact ⟨ret_bool hr.out.symm, Below.alloc (Below.refl _ _) (Nat.le_refl _) _⟩
set_option maxHeartbeats 1000000 in
theorem isOver_any (g : Nat) (s : Int) (a : Option Addr) (n c : Nat) (xs : List Int) (w : World) (hs : 3 ≤ s ∧ s ≤ 1021) (hc : w.cell? ⟨g, 1, none⟩ = some (.int .i64 s)) (h : Rd .i64 w a n xs) (hn : n ≤ 1000000000) :
    Calls Try.prog 114 #[.slice a n c, .pointer (some ⟨g, 0, none⟩)] w (RetQ (.bool (polyB s xs)) w) := by
  have HL := Lib.hid h.len
  by_cases hl : n ≤ 512
  · cases hb : allF s xs with
    | false =>
      have hr := Lib.hid (polyB_out hb)
      go_enter Try.func114, Try.ntmps114
      go_wp2_with fail
      refine (hasAll_any g s a n c xs _ hs hc h hn).mono ?_
      rw [hb]
      rintro e w1 ⟨rfl, rfl⟩
      go_wp2_with fail
      go_ret
      exact ⟨ret_bool hr.out.symm, 0, rfl⟩
    | true =>
      by_cases h00 : n = 0
      · subst h00
        obtain rfl := List.eq_nil_of_length_eq_zero HL.out
        have hr := Lib.hid (polyB_nil (s := s))
        go_enter Try.func114, Try.ntmps114
        go_wp2_with fail
        refine (hasAll_any g s a 0 c [] _ hs hc h hn).mono ?_
        rw [hb]
        rintro e w1 ⟨rfl, rfl⟩
        go_wp2_with fail
        go_ret
        exact ⟨ret_bool hr.out.symm, 0, rfl⟩
      · obtain ⟨m, hm⟩ : ∃ m, n = m + 1 := ⟨n - 1, by omega⟩
        have h0 := Lib.hid h
        obtain ⟨b, o, x, rfl, hbl, hcell, hx, hx1, hx2⟩ := h0.out.at_ (show m < n by omega)
        have hr := Lib.hid (polyB_last (s := s) (by rw [HL.out]; exact hl) hb (HL.out.trans hm) hx.out)
        have hn0 : ((n : Int) == 0) = false := by rw [beq_eq_false_iff_ne]; omega
        have hn1 : IntKind.i64.wrap ((n : Int) - 1) = (m : Int) := (IntWalk.i64_in _ (by omega)).trans (by omega)
        have b1 : (0 : Int) ≤ (m : Int) := by omega
        have b2 : (m : Int) < (n : Int) := by omega
        clear hm h00
        go_enter Try.func114, Try.ntmps114
        go_wp2_with fail
        refine (hasAll_any g s _ n c xs _ hs hc h hn).mono ?_
        rw [hb]
        rintro e w1 ⟨rfl, rfl⟩
        go_wp2_with fail
        go_ret
        exact ⟨ret_bool hr.out.symm, 0, rfl⟩
  · have hr := Lib.hid (polyB_long (s := s) (by rw [HL.out]; exact hl))
    have hl2 : 512 < n := by omega
    clear hl
    go_enter Try.func114, Try.ntmps114
    go_wp2_with fail
    go_ret
    exact ⟨ret_bool hr.out.symm, 0, rfl⟩
def isPolyB (p q y : Int) (xs : List Int) : Bool := fieldB p q y && polyB (fsize p q) xs
theorem isPolyB_no {p q y : Int} {xs : List Int} (h : fieldB p q y = false) : isPolyB p q y xs = false := by unfold isPolyB; rw [h]; rfl
theorem isPolyB_yes {p q y : Int} {xs : List Int} (h : fieldB p q y = true) : isPolyB p q y xs = polyB (fsize p q) xs := by unfold isPolyB; rw [h]; rfl
end Go.Proofs.Ytjdnaoidlblciaa
