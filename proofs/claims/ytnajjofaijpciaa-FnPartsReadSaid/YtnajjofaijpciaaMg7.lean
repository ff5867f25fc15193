/-
  Texts of the proof, one behind the other: each bears its own heading.
  Conditions: as the headings say.
-/
import Derived.Test.YtnajjofaijpciaaCalcC
/-
  Contracts: the arithmetic of the numbers modulo a prime; the tests for a prime.
  Conditions: numbers between 3 and 1021.
-/
set_option linter.unusedVariables false
namespace Go.Proofs.Ytnajjofaijpciaa
open Go.RowKit Go.G8

def noDiv (n : Int) (k : Nat) : Bool := (List.range k).all (fun d => !(decide (2 ≤ d ∧ (d : Int) * d ≤ n ∧ n % d = 0)))
def primeB (n : Int) : Bool := noDiv n 33
theorem noDiv_succ {n : Int} {k : Nat} (h : noDiv n k = true) (hk : ¬ n % (k : Int) = 0) : noDiv n (k + 1) = true := by
  unfold noDiv at *
  rw [List.range_succ, List.all_append, h]
  simp [hk]
theorem noDiv_bad {n : Int} {k : Nat} (h2 : 2 ≤ k) (hk : n % (k : Int) = 0) (hl : (k : Int) * k ≤ n) (h : k < 33) : primeB n = false := by
  rw [Bool.eq_false_iff]
  intro e
  have := List.all_eq_true.1 e k (by simpa using h)
  simp [h2, hk, hl] at this
theorem noDiv_end {n : Int} {k : Nat} (h : noDiv n k = true) (hl : ¬ (k : Int) * k ≤ n) : primeB n = true := by
  refine List.all_eq_true.2 (fun d hd => ?_)
  by_cases hdk : d < k
  · exact List.all_eq_true.1 h d (by simpa using hdk)
  · have h1 : (k : Int) * k ≤ (d : Int) * d := Int.mul_le_mul (by omega) (by omega) (by omega) (by omega)
    have : ¬ (d : Int) * d ≤ n := by omega
    simp [this]
theorem sq_bd {k : Nat} {n : Int} (hk : (k : Int) * k ≤ n) (hn : n ≤ 1021) : k < 32 := by
  rcases Nat.lt_or_ge k 32 with h | h
  · exact h
  · exfalso
    have : (32 : Int) * 32 ≤ (k : Int) * k := Int.mul_le_mul (by omega) (by omega) (by omega) (by omega)
    omega
theorem sq_small {k : Nat} (hk : k ≤ 32) : (k : Int) * k ≤ 1024 := by
  have : (k : Int) * k ≤ 32 * 32 := Int.mul_le_mul (by omega) (by omega) (by omega) (by omega)
  omega
theorem isPrime_spec (n : Int) (w : World) (hn : 3 ≤ n ∧ n ≤ 1021) : Calls Try.prog 79 #[.int .i64 n] w (RetS (.bool (primeB n)) w) := by
  obtain ⟨hn1, hn2⟩ := hn
  go_enter Try.func79, Try.ntmps79
  go_wp2
  go_loop [3] (fun d => ∃ k : Nat, 2 ≤ k ∧ k ≤ 32 ∧ d = .int .i64 k ∧ Hid (noDiv n k = true)) (fun d => 33 - (intOf d).toNat)
  case atStart => exact ⟨2, by omega, by omega, by go_num, rfl⟩
  case round =>
    obtain ⟨k, hk1, hk2, rfl, hnd⟩ := hrel
    have hsq := sq_small hk2
    have hsq0 : 0 ≤ (k : Int) * k := Int.mul_nonneg (by omega) (by omega)
    by_cases hl : (k : Int) * k ≤ n
    · have hk3 := sq_bd hl hn2
      have hkn : ¬ (k : Int) = 0 := by omega
      by_cases hz : n % (k : Int) = 0
      · have hr := Lib.hid (noDiv_bad hk1 hz hl (by omega))
        go_wp2
        go_ret
        exact ⟨ret_bool hr.out.symm, rfl⟩
      · have hr := Lib.hid (noDiv_succ hnd.out hz)
        have hzb : (n % (k : Int) == 0) = false := by rw [beq_eq_false_iff_ne]; exact hz
        go_wp2
        go_round
        case rel => exact ⟨k + 1, by omega, by omega, by go_num, hr⟩
        case measure => simp [intOf]; omega
    · have hr := Lib.hid (noDiv_end hnd.out hl)
      have hl2 : n < (k : Int) * k := by omega
      have hlb : decide ((k : Int) * k ≤ n) = false := by simpa using hl
      clear hl
      go_wp2
      go_ret
      exact ⟨ret_bool hr.out.symm, rfl⟩
theorem l02Prime_spec (n : Int) (w : World) (hn : 3 ≤ n ∧ n ≤ 1021) : Calls Try.prog 87 #[.int .i64 n] w (RetS (.bool (primeB n)) w) := by
  obtain ⟨hn1, hn2⟩ := hn
  go_enter Try.func87, Try.ntmps87
  go_wp2
  go_loop [3] (fun d => ∃ k : Nat, 2 ≤ k ∧ k ≤ 32 ∧ d = .int .i64 k ∧ Hid (noDiv n k = true)) (fun d => 33 - (intOf d).toNat)
  case atStart => exact ⟨2, by omega, by omega, by go_num, rfl⟩
  case round =>
    obtain ⟨k, hk1, hk2, rfl, hnd⟩ := hrel
    have hsq := sq_small hk2
    have hsq0 : 0 ≤ (k : Int) * k := Int.mul_nonneg (by omega) (by omega)
    by_cases hl : (k : Int) * k ≤ n
    · have hk3 := sq_bd hl hn2
      have hkn : ¬ (k : Int) = 0 := by omega
      by_cases hz : n % (k : Int) = 0
      · have hr := Lib.hid (noDiv_bad hk1 hz hl (by omega))
        go_wp2
        go_ret
        exact ⟨ret_bool hr.out.symm, rfl⟩
      · have hr := Lib.hid (noDiv_succ hnd.out hz)
        have hzb : (n % (k : Int) == 0) = false := by rw [beq_eq_false_iff_ne]; exact hz
        go_wp2
        go_round
        case rel => exact ⟨k + 1, by omega, by omega, by go_num, hr⟩
        case measure => simp [intOf]; omega
    · have hr := Lib.hid (noDiv_end hnd.out hl)
      have hl2 : n < (k : Int) * k := by omega
      have hlb : decide ((k : Int) * k ≤ n) = false := by simpa using hl
      clear hl
      go_wp2
      go_ret
      exact ⟨ret_bool (by rw [hr.out]; simp; omega), rfl⟩
end Go.Proofs.Ytnajjofaijpciaa
/-
  Contract: the arithmetic of the numbers modulo a prime and a generator.
  Conditions: primes between 3 and 1021.
-/
set_option linter.unusedVariables false
namespace Go.Proofs.Ytnajjofaijpciaa
open Go.RowKit Go.G8
theorem tab_new {T : TypeId} {cs : Array Value} {b : Bool} {size : Int} {E L : Nat → Int} (w : World) (h : TabCells cs b size E L) : Tab T (w.alloc (.cells cs T)) w.heap.size b size E L :=
  ⟨cs, heap_alloc_new w _, h⟩
theorem alloc_cell (w : World) (v : Value) (T : TypeId) : (w.alloc (.cells #[v] T)).cell? ⟨w.heap.size, 0, none⟩ = some v := by
  rw [cell_of_row _ _ 0 _ T (0, 0) (heap_alloc_new w _)]; rfl
theorem alloc_cell_old (w : World) (o : Obj) (b i : Nat) (h : b < w.heap.size) : (w.alloc o).cell? ⟨b, i, none⟩ = w.cell? ⟨b, i, none⟩ := World.cell?_of_block (a := ⟨b, i, none⟩) (heap_alloc_old w o h)
def isZ : Value → Bool
  | .int .i64 n => n == 0
  | _ => false
theorem isZ_eq {v : Value} (h : isZ v = true) : v = .int .i64 0 := by
  unfold isZ at h
  split at h
  · simp at h; rw [h]
  · cases h
theorem zeroAll : (Try.zeroCells113.toList.drop 2).all isZ = true := by kernel_rfl
theorem zeroTwo : Try.zeroCells113[0]? = some (.bool false) := by kernel_rfl
theorem zeroAt {i : Nat} (h1 : 2 ≤ i) (h2 : i < 2044) : Try.zeroCells113[i]? = some (.int .i64 0) := by
  have hs : Try.zeroCells113.toList.length = 2044 := by rw [Array.length_toList]; exact Try.zeroCells113_size
  have hl : i - 2 < (Try.zeroCells113.toList.drop 2).length := by rw [List.length_drop, hs]; omega
  have h := isZ_eq (List.all_eq_true.1 zeroAll _ (List.getElem_mem hl))
  rw [← Array.getElem?_toList, List.getElem?_eq_getElem (by omega)]
  rw [List.getElem_drop] at h
  simp only [show 2 + (i - 2) = i from by omega] at h
  rw [h]
theorem zero_one (size : Int) : TabCells (Try.zeroCells113.setIfInBounds 1 (.int .i64 size)) false size (fun _ => 0) (fun _ => 0) := by
  have hz : Try.zeroCells113.size = 2044 := Try.zeroCells113_size
  refine ⟨by rw [Array.size_setIfInBounds]; exact hz, ?_, ?_, fun i h => ?_, fun i h => ?_⟩
  · rw [Array.getElem?_setIfInBounds, if_neg (by omega)]; exact zeroTwo
  · rw [Array.getElem?_setIfInBounds, if_pos rfl, if_pos (by omega)]
  · rw [Array.getElem?_setIfInBounds, if_neg (by omega)]; exact zeroAt (by omega) (by omega)
  · rw [Array.getElem?_setIfInBounds, if_neg (by omega)]; exact zeroAt (by omega) (by omega)
theorem zero_both (b : Bool) (size : Int) : TabCells ((Try.zeroCells113.setIfInBounds 0 (.bool b)).setIfInBounds 1 (.int .i64 size)) b size (fun _ => 0) (fun _ => 0) := by
  have hz : Try.zeroCells113.size = 2044 := Try.zeroCells113_size
  refine ⟨by rw [Array.size_setIfInBounds, Array.size_setIfInBounds]; exact hz, ?_, ?_, fun i h => ?_, fun i h => ?_⟩
  · rw [Array.getElem?_setIfInBounds, if_neg (by omega), Array.getElem?_setIfInBounds, if_pos rfl, if_pos (by omega)]
  · rw [Array.getElem?_setIfInBounds, if_pos rfl, if_pos (by rw [Array.size_setIfInBounds]; omega)]
  · rw [Array.getElem?_setIfInBounds, if_neg (by omega), Array.getElem?_setIfInBounds, if_neg (by omega)]; exact zeroAt (by omega) (by omega)
  · rw [Array.getElem?_setIfInBounds, if_neg (by omega), Array.getElem?_setIfInBounds, if_neg (by omega)]; exact zeroAt (by omega) (by omega)
def Calced (T : TypeId) (t : Int → Int) (N : Nat) (b : Bool) (size : Int) (w : World) (e : Ending) (w' : World) : Prop :=
  ∃ G E L, e = .returned (.tuple #[.pointer (some ⟨G, 0, none⟩), .bool (okT t N)]) ∧ w.heap.size ≤ G ∧ Tab T w' G b size E L ∧ (okT t N = true → E = expT t N ∧ L = logT t N) ∧ Below w.heap.size w w'
theorem primePowers_spec (N : Nat) (p g : Int) (w : World) (hN : 2 ≤ N ∧ N ≤ 1020) (hp : p = (N : Int) + 1) (hg : 0 ≤ g ∧ g < p) :
    Calls Try.prog 80 #[.int .i64 p, .int .i64 g] w (Calced 113 (tP p g) N false p w) := by
  obtain ⟨hN1, hN2⟩ := hN
  obtain ⟨hg1, hg2⟩ := hg
  have HP := Lib.hid hp
  have hp1 : 3 ≤ p := by omega
  have hp2 : p ≤ 1021 := by omega
  clear hp
  go_enter Try.func80, Try.ntmps80
  have HT := Lib.hid (tab_new (T := 113) ((w.alloc (Obj.cells #[Value.int IntKind.i64 p] 2)).alloc (Obj.cells #[Value.int IntKind.i64 g] 2)) (zero_one p))
  have HCG := Lib.hid (show (((w.alloc (Obj.cells #[Value.int IntKind.i64 p] 2)).alloc (Obj.cells #[Value.int IntKind.i64 g] 2)).alloc (Obj.cells (Try.zeroCells113.setIfInBounds 1 (Value.int IntKind.i64 p)) 113)).cell? ⟨w.heap.size + 1, 0, none⟩ = some (.int .i64 g) from by
    rw [alloc_cell_old _ _ _ _ (by simp)]
    simp)
  have HCP := Lib.hid (show (((w.alloc (Obj.cells #[Value.int IntKind.i64 p] 2)).alloc (Obj.cells #[Value.int IntKind.i64 g] 2)).alloc (Obj.cells (Try.zeroCells113.setIfInBounds 1 (Value.int IntKind.i64 p)) 113)).cell? ⟨w.heap.size, 0, none⟩ = some (.int .i64 p) from by
    rw [alloc_cell_old _ _ _ _ (by simp; omega), alloc_cell_old _ _ _ _ (by simp), alloc_cell])
  go_wp2_with (go_at_call 81; refine (fillP _ false N _ _ p g _ ⟨hN1, hN2⟩ (by have := HT.out; rw [HP.out] at this ⊢; simpa using this) (by omega) (by omega) HP.out ⟨hg1, hg2⟩ HCG.out HCP.out).mono ?_; rintro e w' ⟨E, L, rfl, htab, hEL, hgr⟩)
  go_ret2
  rw [← HP.out] at htab
  refine ⟨_, E, L, rfl, by omega, htab, hEL, ?_⟩
  refine Below.grown ?_ hgr (by simp; omega) (fun k e => by injection e; omega)
  refine Below.alloc ?_ (by simp; omega) _
  refine Below.alloc ?_ (by simp) _
  exact Below.alloc (Below.refl _ _) (Nat.le_refl _) _
end Go.Proofs.Ytnajjofaijpciaa
