/-
  Contracts: whether numbers are elements of a field; the code of a field and elements.
  Conditions: none.
-/
import Derived.Test.YtnajjofaijpciaaFieldH
set_option linter.unusedVariables false
namespace Go.Proofs.Ytnajjofaijpciaa
open Go.RowKit Go.G8
def inF (s x : Int) : Bool := decide (0 ≤ x ∧ x ≤ s - 1)
def allF (s : Int) (xs : List Int) : Bool := xs.all (inF s)
theorem allF_bad {s x : Int} {xs : List Int} {k : Nat} (hx : xs[k]? = some x) (h : ¬ (0 ≤ x ∧ x ≤ s - 1)) : allF s xs = false := by
  rw [Bool.eq_false_iff]
  intro e
  have := List.all_eq_true.1 e x (List.mem_of_getElem? hx)
  simp only [inF, decide_eq_true_eq] at this
  exact h this
theorem allF_snoc {s x : Int} {xs : List Int} {k : Nat} (hx : xs[k]? = some x) (h : allF s (xs.take k) = true) (hi : 0 ≤ x ∧ x ≤ s - 1) : allF s (xs.take (k + 1)) = true := by
  obtain ⟨hk, rfl⟩ := List.getElem?_eq_some_iff.1 hx
  unfold allF at *
  rw [List.take_succ_eq_append_getElem hk, List.all_append, h]
  simp [inF, hi]
def codeF (p q y : Int) (xs : List Int) : Int := if fieldB p q y then (if allF (fsize p q) xs then 0 else 2) else 1
theorem has_yes (g : Nat) (s a : Int) (w : World) (hs : 3 ≤ s ∧ s ≤ 1021) (hc : w.cell? ⟨g, 1, none⟩ = some (.int .i64 s)) (h : 0 ≤ a ∧ a ≤ s - 1) : Calls Try.prog 83 #[.pointer (some ⟨g, 0, none⟩), .int .i64 a] w (RetS (.bool true) w) := by
  obtain ⟨hs1, hs2⟩ := hs
  go_enter Try.func83, Try.ntmps83
  go_wp2_with fail
  refine (inRange_yes a 0 (s - 1) _ h).mono ?_
  rintro e w' ⟨rfl, rfl⟩
  go_wp2
  go_ret
  exact ⟨rfl, rfl⟩
theorem has_no (g : Nat) (s a : Int) (w : World) (hs : 3 ≤ s ∧ s ≤ 1021) (hc : w.cell? ⟨g, 1, none⟩ = some (.int .i64 s)) (h : ¬ (0 ≤ a ∧ a ≤ s - 1)) : Calls Try.prog 83 #[.pointer (some ⟨g, 0, none⟩), .int .i64 a] w (RetS (.bool false) w) := by
  obtain ⟨hs1, hs2⟩ := hs
  go_enter Try.func83, Try.ntmps83
  go_wp2_with fail
  refine (inRange_no a 0 (s - 1) _ h).mono ?_
  rintro e w' ⟨rfl, rfl⟩
  go_wp2
  go_ret
  exact ⟨rfl, rfl⟩
theorem hasAll_any (g : Nat) (s : Int) (a : Option Addr) (n c : Nat) (xs : List Int) (w : World) (hs : 3 ≤ s ∧ s ≤ 1021) (hc : w.cell? ⟨g, 1, none⟩ = some (.int .i64 s)) (h : Rd .i64 w a n xs) (hn : n ≤ 1000000000) :
    Calls Try.prog 64 #[.pointer (some ⟨g, 0, none⟩), .slice a n c] w (RetS (.bool (allF s xs)) w) := by
  have HA := Lib.hid h.len
  go_enter Try.func64, Try.ntmps64
  go_wp2
  go_loop [9] (fun i => ∃ k : Nat, k ≤ n ∧ i = .int .i64 k ∧ Hid (allF s (xs.take k) = true)) (fun i => n - (intOf i).toNat)
  case atStart => exact ⟨0, Nat.zero_le _, rfl, rfl⟩
  case round =>
    obtain ⟨k, hk, rfl, hal⟩ := hrel
    by_cases hlt : k < n
    · obtain ⟨b, o, x, rfl, -, hcell, hx, -, -⟩ := h.at_ hlt
      by_cases hi : 0 ≤ x ∧ x ≤ s - 1
      · have hS := Lib.hid (allF_snoc hx.out hal.out hi)
        go_wp2_with (go_at_call 83; refine (has_yes g s x _ hs hc hi).mono ?_; rintro e w' ⟨rfl, rfl⟩)
        go_round
        case rel => exact ⟨k + 1, by omega, by go_num, hS⟩
        case measure => simp [intOf]; omega
      · have hr := Lib.hid (allF_bad hx.out hi)
        go_wp2_with (go_at_call 83; refine (has_no g s x _ hs hc hi).mono ?_; rintro e w' ⟨rfl, rfl⟩)
        go_ret
        exact ⟨ret_bool hr.out.symm, rfl⟩
    · obtain rfl : k = n := by omega
      go_wp2
      go_ret
      have := hal.out
      rw [List.take_of_length_le (by rw [HA.out]; exact Nat.le_refl _)] at this
      exact ⟨ret_bool this.symm, rfl⟩
theorem keep4 {wr w1 : World} {b o h : Nat} {x1 x2 x3 x4 : Value} (hb1 : Below wr.drew.heap.size wr.drew w1) (hbr : b < wr.heap.size) (hlt : h < wr.heap.size) (c1 : wr.cell? ⟨b, o, none⟩ = some x1) (c2 : wr.cell? ⟨h, 0, none⟩ = some x2) (c3 : wr.cell? ⟨h, 1, none⟩ = some x3) (c4 : wr.cell? ⟨h, 2, none⟩ = some x4) :
    w1.cell? ⟨b, o, none⟩ = some x1 ∧ w1.cell? ⟨h, 0, none⟩ = some x2 ∧ w1.cell? ⟨h, 1, none⟩ = some x3 ∧ w1.cell? ⟨h, 2, none⟩ = some x4 := by
  obtain ⟨hcc, hff⟩ := bcell hb1
  exact ⟨(hcc b o hbr).trans c1, (hcc h 0 hlt).trans c2, (hcc h 1 hlt).trans c3, (hcc h 2 hlt).trans c4⟩
set_option maxHeartbeats 1000000 in
theorem l02Is_any (p q y : Int) (a : Option Addr) (n c : Nat) (xs : List Int) (w : World) (hf : fieldB p q y = true) (h : Rd .i64 w a n xs) (hn : n ≤ 1000000000) :
    Calls Try.prog 78 #[.agg #[.int .i64 p, .int .i64 q, .int .i64 y], .slice a n c] w (RetB (.bool (allF (fsize p q) xs)) w) := by
  have HL := Lib.hid (fun w => l02Size_any w hf)
  obtain ⟨hs1, hs2⟩ := fsize_bd hf
  obtain ⟨s, hs⟩ : ∃ s, fsize p q = s := ⟨_, rfl⟩
  rw [hs] at HL hs1 hs2 ⊢
  clear hs hf
  have HA := Lib.hid h.len
  go_enter Try.func78, Try.ntmps78
  go_wp2
  go_loopw [5] (fun i wr => ∃ k : Nat, k ≤ n ∧ i = .int .i64 k ∧ Hid (allF s (xs.take k) = true) ∧ Below w.heap.size w wr ∧ wr.cell? ⟨w.heap.size, 0, none⟩ = some (.int .i64 p) ∧ wr.cell? ⟨w.heap.size, 1, none⟩ = some (.int .i64 q) ∧ wr.cell? ⟨w.heap.size, 2, none⟩ = some (.int .i64 y) ∧ w.heap.size < wr.heap.size) (fun i _ => n - (intOf i).toNat)
  case atStart =>
    refine ⟨0, by omega, by go_num, rfl, Below.alloc (Below.refl _ _) (Nat.le_refl _) _, ?_, ?_, ?_, by simp⟩ <;> rw [cell_of_row _ _ _ _ _ (0, 0) (heap_alloc_new w _)] <;> rfl
  case round =>
    obtain ⟨k, hk, rfl, hal, hbw, hc0, hc1, hc2, hlt⟩ := hrel
    by_cases hkn : k < n
    · obtain ⟨b, o, x, rfl, hbl, hcell, hx, -, -⟩ := h.at_ hkn
      have hcl := (hbw.cell (p := ⟨b, o + k, none⟩) hbl).trans hcell
      have hbr : b < wr.heap.size := by have := hbw.size; omega
      have hk1 : (0 : Int) ≤ (k : Int) := by omega
      have hk2 : (k : Int) < (n : Int) := by omega
      by_cases hi : 0 ≤ x ∧ x ≤ s - 1
      · have hS := Lib.hid (allF_snoc hx.out hal.out hi)
        have hw1 : IntKind.i64.wrap (s - 1) = s - 1 := IntWalk.i64_in _ (by omega)
        go_wp2
        go_region_held3 (fun w' => w'.cell? ⟨b, o + k, none⟩ = some (.int .i64 x) ∧ w'.cell? ⟨w.heap.size, 0, none⟩ = some (.int .i64 p) ∧ w'.cell? ⟨w.heap.size, 1, none⟩ = some (.int .i64 q) ∧ w'.cell? ⟨w.heap.size, 2, none⟩ = some (.int .i64 y))
          (first | go_keep | exact keep4 hb1 hbr hlt hcl hc0 hc1 hc2)
          (first | (go_at_call 52; refine (HL.out _).mono ?_; rintro e w1 ⟨rfl, hb1⟩) | (go_at_call 30; refine (l01In_yes x 0 (s - 1) _ hi).mono ?_; rintro e w' ⟨rfl, rfl⟩))
        obtain ⟨hd1, hd2, hd3, hd4⟩ := keep4 hb1 hbr hlt hcl hc0 hc1 hc2
        have hb2 := ((Below.refl wr.heap.size wr).drew).trans hb1
        have hsz := hb2.size
        go_wp2
        exact ⟨⟨k + 1, by omega, by go_num, hS, bt hbw hb2, hd2, hd3, hd4, by omega⟩, by simp [intOf]; omega⟩
      · have hr := Lib.hid (allF_bad hx.out hi)
        have hw1 : IntKind.i64.wrap (s - 1) = s - 1 := IntWalk.i64_in _ (by omega)
        go_wp2
        go_region_held3 (fun w' => w'.cell? ⟨b, o + k, none⟩ = some (.int .i64 x) ∧ w'.cell? ⟨w.heap.size, 0, none⟩ = some (.int .i64 p) ∧ w'.cell? ⟨w.heap.size, 1, none⟩ = some (.int .i64 q) ∧ w'.cell? ⟨w.heap.size, 2, none⟩ = some (.int .i64 y))
          (first | go_keep | exact keep4 hb1 hbr hlt hcl hc0 hc1 hc2)
          (first | (go_at_call 52; refine (HL.out _).mono ?_; rintro e w1 ⟨rfl, hb1⟩) | (go_at_call 30; refine (l01In_no x 0 (s - 1) _ hi).mono ?_; rintro e w' ⟨rfl, rfl⟩))
        have hb2 := ((Below.refl wr.heap.size wr).drew).trans hb1
        go_wp2
        go_ret
        exact ⟨ret_bool hr.out.symm, bt hbw hb2⟩
    · obtain rfl : k = n := by omega
      have hal2 := hal.out
      rw [List.take_of_length_le (by rw [HA.out]; exact Nat.le_refl _)] at hal2
      have HR := Lib.hid hal2
      clear hal2
      go_wp2
      go_ret
      exact ⟨ret_bool HR.out.symm, hbw⟩
end Go.Proofs.Ytnajjofaijpciaa
