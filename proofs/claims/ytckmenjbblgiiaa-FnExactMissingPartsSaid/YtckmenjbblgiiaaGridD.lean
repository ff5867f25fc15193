/-
  Contracts: a cell of a grid, by the program; the law's grid as the program's; equal grids.
  Conditions: none.
-/
import Derived.Test.YtckmenjbblgiiaaGridC
set_option linter.unusedVariables false
namespace Go.Proofs.Ytckmenjbblgiiaa
open Go.RowKit Go.G8
theorem alloc_cell_was (w : World) (o : Obj) (b i : Nat) (hb : b < w.heap.size) : (w.alloc o).cell? ⟨b, i, none⟩ = w.cell? ⟨b, i, none⟩ :=
  (Below.alloc (Below.refl w.heap.size w) (Nat.le_refl _) o).cell (p := ⟨b, i, none⟩) hb
theorem two_slots (w : World) (A B : Array Value) (T E : TypeId) : Below w.heap.size w ((w.alloc (.cells A T)).alloc (.cells B E)) ∧ w.heap.size + 1 < ((w.alloc (.cells A T)).alloc (.cells B E)).heap.size ∧
    (∀ i u, A[i]? = some u → ((w.alloc (.cells A T)).alloc (.cells B E)).cell? ⟨w.heap.size, i, none⟩ = some u) ∧ (∀ i u, B[i]? = some u → ((w.alloc (.cells A T)).alloc (.cells B E)).cell? ⟨w.heap.size + 1, i, none⟩ = some u) := by
  refine ⟨Below.alloc (Below.alloc (Below.refl w.heap.size w) (Nat.le_refl _) _) (by simp) _, by simp, fun i u hv => ?_, fun i u hv => ?_⟩
  · rw [alloc_cell_was _ _ _ _ (by simp), cell_of_row _ _ _ _ _ (0, 0) (heap_alloc_new w _), hv]
  · have h := cell_of_row ((w.alloc (.cells A T)).alloc (.cells B E)) (w.heap.size + 1) i B E (0, 0) (by have := heap_alloc_new (w.alloc (.cells A T)) (.cells B E); simpa using this)
    rw [h, hv]
theorem three_slots (w : World) (A B C : Array Value) (T E F : TypeId) : Below w.heap.size w (((w.alloc (.cells A T)).alloc (.cells B E)).alloc (.cells C F)) ∧ w.heap.size + 1 + 1 < (((w.alloc (.cells A T)).alloc (.cells B E)).alloc (.cells C F)).heap.size ∧
    (∀ i u, B[i]? = some u → (((w.alloc (.cells A T)).alloc (.cells B E)).alloc (.cells C F)).cell? ⟨w.heap.size + 1, i, none⟩ = some u) ∧ (∀ i u, C[i]? = some u → (((w.alloc (.cells A T)).alloc (.cells B E)).alloc (.cells C F)).cell? ⟨w.heap.size + 1 + 1, i, none⟩ = some u) := by
  obtain ⟨h1, h2, h3, h4⟩ := two_slots w A B T E
  refine ⟨h1.alloc (by simp; omega) _, by simp, fun i u hv => ?_, fun i u hv => ?_⟩
  · rw [alloc_cell_was _ _ _ _ (by simp)]
    exact h4 i u hv
  · have h := cell_of_row (((w.alloc (.cells A T)).alloc (.cells B E)).alloc (.cells C F)) (w.heap.size + 1 + 1) i C F (0, 0) (by have := heap_alloc_new ((w.alloc (.cells A T)).alloc (.cells B E)) (.cells C F); simpa using this)
    rw [h, hv]
theorem three_free (w : World) (A B C : Array Value) (T E F : TypeId) (i : Nat) : (((w.alloc (.cells A T)).alloc (.cells B E)).alloc (.cells C F)).frozen? ⟨w.heap.size + 1, i, none⟩ = false ∧ (((w.alloc (.cells A T)).alloc (.cells B E)).alloc (.cells C F)).frozen? ⟨w.heap.size + 1 + 1, i, none⟩ = false := by
  constructor
  · rw [(Below.alloc (Below.refl _ _) (Nat.le_refl _) _).frozen (p := ⟨w.heap.size + 1, i, none⟩) (by simp)]
    exact frozen_of_row _ _ _ _ _ (by have := heap_alloc_new (w.alloc (.cells A T)) (.cells B E); simpa using this)
  · exact frozen_of_row _ _ _ _ _ (by have := heap_alloc_new ((w.alloc (.cells A T)).alloc (.cells B E)) (.cells C F); simpa using this)
theorem set3v (wr : World) (b : Nat) (x y z : Value) {u0 u1 u2 : Value} (c0 : wr.cell? ⟨b, 0, none⟩ = some u0) (c1 : wr.cell? ⟨b, 1, none⟩ = some u1) (c2 : wr.cell? ⟨b, 2, none⟩ = some u2) :
    (((wr.setCell ⟨b, 0, none⟩ x).setCell ⟨b, 1, none⟩ y).setCell ⟨b, 2, none⟩ z).cell? ⟨b, 0, none⟩ = some x ∧
    (((wr.setCell ⟨b, 0, none⟩ x).setCell ⟨b, 1, none⟩ y).setCell ⟨b, 2, none⟩ z).cell? ⟨b, 1, none⟩ = some y ∧
    (((wr.setCell ⟨b, 0, none⟩ x).setCell ⟨b, 1, none⟩ y).setCell ⟨b, 2, none⟩ z).cell? ⟨b, 2, none⟩ = some z ∧
    wr.grownBy (((wr.setCell ⟨b, 0, none⟩ x).setCell ⟨b, 1, none⟩ y).setCell ⟨b, 2, none⟩ z) (some b) := by
  have n10 : (⟨b, 1, none⟩ : Addr) ≠ ⟨b, 0, none⟩ := by intro e; injection e; omega
  have n20 : (⟨b, 2, none⟩ : Addr) ≠ ⟨b, 0, none⟩ := by intro e; injection e; omega
  have n21 : (⟨b, 2, none⟩ : Addr) ≠ ⟨b, 1, none⟩ := by intro e; injection e; omega
  have h0 := World.cell?_setCell_same _ _ x c0
  have h1 := World.cell?_setCell_same _ _ y ((World.cell?_setCell_other wr _ _ x n10.symm).trans c1)
  have h2 := World.cell?_setCell_same _ _ z ((World.cell?_setCell_other (wr.setCell ⟨b, 0, none⟩ x) _ _ y n21.symm).trans ((World.cell?_setCell_other wr _ _ x n20.symm).trans c2))
  refine ⟨?_, ?_, h2, ?_⟩
  · rw [World.cell?_setCell_other _ _ _ _ n20, World.cell?_setCell_other _ _ _ _ n10]; exact h0
  · rw [World.cell?_setCell_other _ _ _ _ n21]; exact h1
  · exact ⟨rfl, rfl, rfl, by simp, fun q hq hne => (Below.heap_setCell _ _ _ q (fun e => hne (by rw [e]))).trans ((Below.heap_setCell _ _ _ q (fun e => hne (by rw [e]))).trans (Below.heap_setCell wr _ _ q (fun e => hne (by rw [e]))))⟩
theorem grid_end {w1 : World} {b1 b2 : Nat} (hne : b1 ≠ b2) (x y s : Value) {u0 u1 u2 : Value} (c0 : w1.cell? ⟨b1, 0, none⟩ = some u0) (c1 : w1.cell? ⟨b1, 1, none⟩ = some u1) (c2 : w1.cell? ⟨b1, 2, none⟩ = some u2) :
    ((((w1.setCell ⟨b2, 2, none⟩ s).setCell ⟨b1, 0, none⟩ x).setCell ⟨b1, 1, none⟩ y).setCell ⟨b1, 2, none⟩ s).cell? ⟨b1, 0, none⟩ = some x ∧
    ((((w1.setCell ⟨b2, 2, none⟩ s).setCell ⟨b1, 0, none⟩ x).setCell ⟨b1, 1, none⟩ y).setCell ⟨b1, 2, none⟩ s).cell? ⟨b1, 1, none⟩ = some y ∧
    ((((w1.setCell ⟨b2, 2, none⟩ s).setCell ⟨b1, 0, none⟩ x).setCell ⟨b1, 1, none⟩ y).setCell ⟨b1, 2, none⟩ s).cell? ⟨b1, 2, none⟩ = some s ∧
    w1.grownBy (w1.setCell ⟨b2, 2, none⟩ s) (some b2) ∧ (w1.setCell ⟨b2, 2, none⟩ s).grownBy ((((w1.setCell ⟨b2, 2, none⟩ s).setCell ⟨b1, 0, none⟩ x).setCell ⟨b1, 1, none⟩ y).setCell ⟨b1, 2, none⟩ s) (some b1) := by
  have o := fun i => World.cell?_setCell_other w1 ⟨b2, 2, none⟩ ⟨b1, i, none⟩ s (by intro e; injection e; omega)
  obtain ⟨e0, e1, e2, e3⟩ := set3v (w1.setCell ⟨b2, 2, none⟩ s) b1 x y s ((o 0).trans c0) ((o 1).trans c1) ((o 2).trans c2)
  exact ⟨e0, e1, e2, ⟨rfl, rfl, rfl, by simp, fun q hq hn => Below.heap_setCell _ _ _ q (fun e => hn (by rw [e]))⟩, e3⟩
theorem at_any (r c : Int) (b o n k I : Nat) (row col x : Int) (w : World) (e1 : IntKind.i64.wrap (row * c) = row * c) (e2 : IntKind.i64.wrap (row * c + col) = (I : Int)) (hI : I < n) (hbl : b < w.heap.size) (hcell : w.cell? ⟨b, o + I, none⟩ = some (.int .i64 x)) :
    Calls Try.prog 97 #[.agg #[.int .i64 r, .int .i64 c, .slice (some ⟨b, o, none⟩) n k], .agg #[.int .i64 row, .int .i64 col]] w (Ret (.int .i64 x) w) := by
  obtain ⟨hw0, hlt0, hA, hB⟩ := two_slots w #[.int .i64 r, .int .i64 c, .slice (some ⟨b, o, none⟩) n k] #[.int .i64 row, .int .i64 col] 41 95
  have hc2 := (hw0.cell (p := ⟨b, o + I, none⟩) hbl).trans hcell
  have b1 : (0 : Int) ≤ (I : Int) := by omega
  have b2 : (I : Int) < (n : Int) := by omega
  go_enter Try.func97, Try.ntmps97
  go_wp2
  go_ret
  exact ⟨rfl, hw0⟩
def RetGrid (r c : Int) (xs : List Int) (w : World) (e : Ending) (w' : World) : Prop :=
  ∃ (a : Option Addr) (n k : Nat), e = .returned (.agg #[.int .i64 r, .int .i64 c, .slice a n k]) ∧ Ow .i64 2 w.heap.size w' a n k xs ∧ Below w.heap.size w w'
set_option maxHeartbeats 1000000 in
theorem toGrid_any (r c : Int) (a : Option Addr) (n k : Nat) (xs : List Int) (w : World) (h : Rd .i64 w a n xs) (hn : n ≤ 1048576) :
    Calls Try.prog 25 #[.agg #[.int .i64 r, .int .i64 c, .slice a n k]] w (RetGrid r c xs w) := by
  obtain ⟨g1, g2, g3, g4⟩ := three_slots w #[.int .i64 r, .int .i64 c, .slice a n k] #[.int .i64 0, .int .i64 0, .slice none 0 0] #[.int .i64 r, .int .i64 c, .slice none 0 0] 38 41 41
  have hR := h.to g1
  have hV : ∃ V, V = ((w.alloc (.cells #[.int .i64 r, .int .i64 c, .slice a n k] 38)).alloc (.cells #[.int .i64 0, .int .i64 0, .slice none 0 0] 41)).alloc (.cells #[.int .i64 r, .int .i64 c, .slice none 0 0] 41) := ⟨_, rfl⟩
  obtain ⟨V, hV⟩ := hV
  go_enter Try.func25, Try.ntmps25
  go_wp2_with fail
  rw [← hV] at g1 g2 g3 g4 hR ⊢
  refine (toInt64S_any a n k xs _ hR hn).mono ?_
  rintro e w1 ⟨a1, n1, c1, rfl, ho1, hb1⟩
  have hB := bt g1 hb1
  have t0 := (hb1.cell (p := ⟨w.heap.size + 1, 0, none⟩) (show w.heap.size + 1 < V.heap.size by omega)).trans (g3 0 _ rfl)
  have t1 := (hb1.cell (p := ⟨w.heap.size + 1, 1, none⟩) (show w.heap.size + 1 < V.heap.size by omega)).trans (g3 1 _ rfl)
  have t2 := (hb1.cell (p := ⟨w.heap.size + 1, 2, none⟩) (show w.heap.size + 1 < V.heap.size by omega)).trans (g3 2 _ rfl)
  have u0 := (hb1.cell (p := ⟨w.heap.size + 1 + 1, 0, none⟩) g2).trans (g4 0 _ rfl)
  have u1 := (hb1.cell (p := ⟨w.heap.size + 1 + 1, 1, none⟩) g2).trans (g4 1 _ rfl)
  have u2 := (hb1.cell (p := ⟨w.heap.size + 1 + 1, 2, none⟩) g2).trans (g4 2 _ rfl)
  have tz : ∀ i, w1.frozen? ⟨w.heap.size + 1, i, none⟩ = false := fun i => (hb1.frozen (p := ⟨w.heap.size + 1, i, none⟩) (show w.heap.size + 1 < V.heap.size by omega)).trans (by rw [hV]; exact (three_free w _ _ _ _ _ _ i).1)
  have uz : ∀ i, w1.frozen? ⟨w.heap.size + 1 + 1, i, none⟩ = false := fun i => (hb1.frozen (p := ⟨w.heap.size + 1 + 1, i, none⟩) g2).trans (by rw [hV]; exact (three_free w _ _ _ _ _ _ i).2)
  have hs1 := hb1.size
  have HO := Lib.hid ho1
  have HB := Lib.hid hB
  have HE := Lib.hid (grid_end (w1 := w1) (show w.heap.size + 1 ≠ w.heap.size + 1 + 1 by omega) (.int .i64 r) (.int .i64 c) (.slice a1 n1 c1) t0 t1 t2)
  clear hV hb1 g1 g3 g4 hR h ho1 hB
  go_wp2_with fail
  obtain ⟨e0, e1, e2, e3, e4⟩ := HE.out
  refine bodyPost_ret (v := .agg #[.int .i64 r, .int .i64 c, .slice a1 n1 c1]) (by simp [results, Try.results25, go_sem, e0, e1, e2]) rfl ⟨a1, n1, c1, rfl, ?_, ?_⟩
  · exact ((HO.out.kept e3 (fun g e => by injection e with e; omega)).kept e4 (fun g e => by injection e with e; omega)).more (by omega)
  · exact (HB.out.grown e3 (by omega) (fun g e => by injection e with e; omega)).grown e4 (by simp; omega) (fun g e => by injection e with e; omega)
theorem szInt64S_any (a : Option Addr) (n k : Nat) (w : World) (hn : n ≤ 9223372036854775807) :
    Calls Try.prog 67 #[.slice a n k, .int .i64 1048576] w (Ret (.int .i64 (if n ≤ 1048576 then 1048576 - n else -1)) w) := by
  by_cases h : n ≤ 1048576
  · rw [if_pos h]
    have d : decide ((1048576 : Int) - n < 0) = false := by simp; omega
    go_enter Try.func67, Try.ntmps67
    go_wp2
    go_ret
    exact ⟨rfl, Below.refl _ _⟩
  · rw [if_neg h]
    have d : decide ((1048576 : Int) - n < 0) = true := by simp; omega
    go_enter Try.func67, Try.ntmps67
    go_wp2
    go_ret
    exact ⟨rfl, Below.refl _ _⟩
theorem szGrid_any (r c : Int) (a : Option Addr) (n k : Nat) (w : World) (hn : n ≤ 9223372036854775807) :
    Calls Try.prog 23 #[.agg #[.int .i64 r, .int .i64 c, .slice a n k], .int .i64 1048576] w (Ret (.int .i64 (if n ≤ 1048576 then 1048576 - n else -1)) w) := by
  obtain ⟨hw0, hlt0, c0, c1, c2⟩ := grid_start w (.int .i64 r) (.int .i64 c) (.slice a n k) 38
  have HZ := Lib.hid (fun w => szInt64S_any a n k w hn)
  by_cases h : n ≤ 1048576
  · rw [if_pos h] at HZ ⊢
    have d : decide ((1048576 : Int) - n < 0) = false := by simp; omega
    go_enter Try.func23, Try.ntmps23
    go_wp2_with fail
    refine (HZ.out _).mono ?_
    rintro e w1 ⟨rfl, hb1⟩
    have hB := bt hw0 hb1
    go_wp2
    go_ret
    exact ⟨rfl, hB⟩
  · rw [if_neg h] at HZ ⊢
    go_enter Try.func23, Try.ntmps23
    go_wp2_with fail
    refine (HZ.out _).mono ?_
    rintro e w1 ⟨rfl, hb1⟩
    have hB := bt hw0 hb1
    go_wp2
    go_ret
    exact ⟨rfl, hB⟩
set_option maxHeartbeats 1000000 in
theorem eqGrid_same (r c : Int) (a b : Option Addr) (n m k d : Nat) (xs : List Int) (w : World) (ha : Rd .i64 w a n xs) (hb : Rd .i64 w b m xs) (hn : n ≤ 1000000000) :
    Calls Try.prog 27 #[.agg #[.int .i64 r, .int .i64 c, .slice a n k], .agg #[.int .i64 r, .int .i64 c, .slice b m d]] w (Ret (.bool true) w) := by
  obtain ⟨hw0, hlt0, hA, hB⟩ := two_slots w #[.int .i64 r, .int .i64 c, .slice a n k] #[.int .i64 r, .int .i64 c, .slice b m d] 41 41
  have hra := ha.to hw0
  have hrb := hb.to hw0
  have e1 : (r != r) = false := by simp
  have e2 : (c != c) = false := by simp
  go_enter Try.func27, Try.ntmps27
  go_wp2_with fail
  refine (eqInt64S_same a b n m k d xs _ hra hrb (by omega)).mono ?_
  rintro e w1 ⟨rfl, hq⟩
  have hB1 := bt hw0 (below_q hq)
  go_wp2
  go_ret
  exact ⟨rfl, hB1⟩
end Go.Proofs.Ytckmenjbblgiiaa
