/-
  Contracts: a cell of a grid, by the program; the law's grid as the program's; equal grids.
  Conditions: none.
-/
import Derived.Test.YtagdkaigdehohaaGridC
set_option linter.unusedVariables false
namespace Go.Proofs.Ytagdkaigdehohaa
open Go.RowKit Go.G8
theorem alloc_cell_was (w : World) (o : Obj) (b i : Nat) (hb : b < w.heap.size) : (w.alloc o).cell? ⟨b, i, none⟩ = w.cell? ⟨b, i, none⟩ :=
  (Below.alloc (Below.refl w.heap.size w) (Nat.le_refl _) o).cell (p := ⟨b, i, none⟩) hb
theorem two_slots (w : World) (A B : Array Value) (T E : TypeId) : Below w.heap.size w ((w.alloc (.cells A T)).alloc (.cells B E)) ∧ w.heap.size + 1 < ((w.alloc (.cells A T)).alloc (.cells B E)).heap.size ∧
    (∀ i u, A[i]? = some u → ((w.alloc (.cells A T)).alloc (.cells B E)).cell? ⟨w.heap.size, i, none⟩ = some u) ∧ (∀ i u, B[i]? = some u → ((w.alloc (.cells A T)).alloc (.cells B E)).cell? ⟨w.heap.size + 1, i, none⟩ = some u) := by
  refine ⟨Below.alloc (Below.alloc (Below.refl w.heap.size w) (Nat.le_refl _) _) (by simp) _, by simp, fun i u hv => ?_, fun i u hv => ?_⟩
  · rw [alloc_cell_was _ _ _ _ (by simp), cell_of_row _ _ _ _ _ (0, 0) (heap_alloc_new w _), hv]
  · have h := cell_of_row ((w.alloc (.cells A T)).alloc (.cells B E)) (w.heap.size + 1) i B E (0, 0) (by have := heap_alloc_new (w.alloc (.cells A T)) (.cells B E); simpa using this)
    rw [h, hv]
theorem three_slots (w : World) (A B C : Array Value) (T E F : TypeId) : Below w.heap.size w (((w.alloc (.cells A T)).alloc (.cells B E)).alloc (.cells C F)) ∧ w.heap.size + 1 + 1 < (((w.alloc (.cells A T)).alloc (.cells B E)).alloc (.cells C F)).heap.size ∧
    (∀ i u, B[i]? = some u → (((w.alloc (.cells A T)).alloc (.cells B E)).alloc (.cells C F)).cell? ⟨w.heap.size + 1, i, none⟩ = some u) ∧ (∀ i u, C[i]? = some u → (((w.alloc (.cells A T)).alloc (.cells B E)).alloc (.cells C F)).cell? ⟨w.heap.size + 1 + 1, i, none⟩ = some u) := by
  obtain ⟨h1, h2, h3, h4⟩ := two_slots w A B T E
  refine ⟨h1.alloc (by simp; omega) _, by simp, fun i u hv => ?_, fun i u hv => ?_⟩
  · rw [alloc_cell_was _ _ _ _ (by simp)]
    exact h4 i u hv
  · have h := cell_of_row (((w.alloc (.cells A T)).alloc (.cells B E)).alloc (.cells C F)) (w.heap.size + 1 + 1) i C F (0, 0) (by have := heap_alloc_new ((w.alloc (.cells A T)).alloc (.cells B E)) (.cells C F); simpa using this)
    rw [h, hv]
theorem three_free (w : World) (A B C : Array Value) (T E F : TypeId) (i : Nat) : (((w.alloc (.cells A T)).alloc (.cells B E)).alloc (.cells C F)).frozen? ⟨w.heap.size + 1, i, none⟩ = false ∧ (((w.alloc (.cells A T)).alloc (.cells B E)).alloc (.cells C F)).frozen? ⟨w.heap.size + 1 + 1, i, none⟩ = false := by
  constructor
  · rw [(Below.alloc (Below.refl _ _) (Nat.le_refl _) _).frozen (p := ⟨w.heap.size + 1, i, none⟩) (by simp)]
    exact frozen_of_row _ _ _ _ _ (by have := heap_alloc_new (w.alloc (.cells A T)) (.cells B E); simpa using this)
  · exact frozen_of_row _ _ _ _ _ (by have := heap_alloc_new ((w.alloc (.cells A T)).alloc (.cells B E)) (.cells C F); simpa using this)
theorem set3v (wr : World) (b : Nat) (x y z : Value) {u0 u1 u2 : Value} (c0 : wr.cell? ⟨b, 0, none⟩ = some u0) (c1 : wr.cell? ⟨b, 1, none⟩ = some u1) (c2 : wr.cell? ⟨b, 2, none⟩ = some u2) :
    (((wr.setCell ⟨b, 0, none⟩ x).setCell ⟨b, 1, none⟩ y).setCell ⟨b, 2, none⟩ z).cell? ⟨b, 0, none⟩ = some x ∧
    (((wr.setCell ⟨b, 0, none⟩ x).setCell ⟨b, 1, none⟩ y).setCell ⟨b, 2, none⟩ z).cell? ⟨b, 1, none⟩ = some y ∧
    (((wr.setCell ⟨b, 0, none⟩ x).setCell ⟨b, 1, none⟩ y).setCell ⟨b, 2, none⟩ z).cell? ⟨b, 2, none⟩ = some z ∧
    wr.grownBy (((wr.setCell ⟨b, 0, none⟩ x).setCell ⟨b, 1, none⟩ y).setCell ⟨b, 2, none⟩ z) (some b) := by
  have n10 : (⟨b, 1, none⟩ : Addr) ≠ ⟨b, 0, none⟩ := by intro e; injection e; omega
  have n20 : (⟨b, 2, none⟩ : Addr) ≠ ⟨b, 0, none⟩ := by intro e; injection e; omega
  have n21 : (⟨b, 2, none⟩ : Addr) ≠ ⟨b, 1, none⟩ := by intro e; injection e; omega
  have h0 := World.cell?_setCell_same _ _ x c0
  have h1 := World.cell?_setCell_same _ _ y ((World.cell?_setCell_other wr _ _ x n10.symm).trans c1)
  have h2 := World.cell?_setCell_same _ _ z ((World.cell?_setCell_other (wr.setCell ⟨b, 0, none⟩ x) _ _ y n21.symm).trans ((World.cell?_setCell_other wr _ _ x n20.symm).trans c2))
  refine ⟨?_, ?_, h2, ?_⟩
  · rw [World.cell?_setCell_other _ _ _ _ n20, World.cell?_setCell_other _ _ _ _ n10]; exact h0
  · rw [World.cell?_setCell_other _ _ _ _ n21]; exact h1
  · exact ⟨rfl, rfl, rfl, by simp, fun q hq hne => (Below.heap_setCell _ _ _ q (fun e => hne (by rw [e]))).trans ((Below.heap_setCell _ _ _ q (fun e => hne (by rw [e]))).trans (Below.heap_setCell wr _ _ q (fun e => hne (by rw [e]))))⟩
theorem grid_end {w1 : World} {b1 b2 : Nat} (hne : b1 ≠ b2) (x y s : Value) {u0 u1 u2 : Value} (c0 : w1.cell? ⟨b1, 0, none⟩ = some u0) (c1 : w1.cell? ⟨b1, 1, none⟩ = some u1) (c2 : w1.cell? ⟨b1, 2, none⟩ = some u2) :
    ((((w1.setCell ⟨b2, 2, none⟩ s).setCell ⟨b1, 0, none⟩ x).setCell ⟨b1, 1, none⟩ y).setCell ⟨b1, 2, none⟩ s).cell? ⟨b1, 0, none⟩ = some x ∧
    ((((w1.setCell ⟨b2, 2, none⟩ s).setCell ⟨b1, 0, none⟩ x).setCell ⟨b1, 1, none⟩ y).setCell ⟨b1, 2, none⟩ s).cell? ⟨b1, 1, none⟩ = some y ∧
    ((((w1.setCell ⟨b2, 2, none⟩ s).setCell ⟨b1, 0, none⟩ x).setCell ⟨b1, 1, none⟩ y).setCell ⟨b1, 2, none⟩ s).cell? ⟨b1, 2, none⟩ = some s ∧
    w1.grownBy (w1.setCell ⟨b2, 2, none⟩ s) (some b2) ∧ (w1.setCell ⟨b2, 2, none⟩ s).grownBy ((((w1.setCell ⟨b2, 2, none⟩ s).setCell ⟨b1, 0, none⟩ x).setCell ⟨b1, 1, none⟩ y).setCell ⟨b1, 2, none⟩ s) (some b1) := by
  have o := fun i => World.cell?_setCell_other w1 ⟨b2, 2, none⟩ ⟨b1, i, none⟩ s (by intro e; injection e; omega)
  obtain ⟨e0, e1, e2, e3⟩ := set3v (w1.setCell ⟨b2, 2, none⟩ s) b1 x y s ((o 0).trans c0) ((o 1).trans c1) ((o 2).trans c2)
  exact ⟨e0, e1, e2, ⟨rfl, rfl, rfl, by simp, fun q hq hn => Below.heap_setCell _ _ _ q (fun e => hn (by rw [e]))⟩, e3⟩
theorem has_any (r c : Int) (s : Value) (row col : Int) (w : World) (hr : 1 ≤ r ∧ r ≤ 40000) (hc : 1 ≤ c ∧ c ≤ 40000) :
    Calls Try.prog 66 #[.agg #[.int .i64 r, .int .i64 c, s], .agg #[.int .i64 row, .int .i64 col]] w (Ret (.bool (decide (placeB r c row col))) w) := by
  obtain ⟨hw0, hlt0, hA, hB⟩ := two_slots w #[.int .i64 r, .int .i64 c, s] #[.int .i64 row, .int .i64 col] 28 74
  by_cases hp : placeB r c row col
  · obtain ⟨hp1, hp2⟩ := id hp
    rw [decide_eq_true hp]
    clear hp
    go_enter Try.func66, Try.ntmps66
    go_wp2_with (go_at_call 64; refine (inRange_yes _ _ _ _ (by omega)).mono ?_; rintro e w' ⟨rfl, rfl⟩)
    go_ret
    exact ⟨rfl, hw0⟩
  · rw [decide_eq_false hp]
    by_cases hp1 : 0 ≤ row ∧ row ≤ r - 1
    · have hp2 : ¬ (0 ≤ col ∧ col ≤ c - 1) := fun e => hp ⟨hp1, e⟩
      clear hp
      go_enter Try.func66, Try.ntmps66
      go_wp2_with (first | (go_at_call 64; refine (inRange_yes _ _ _ _ (by omega)).mono ?_; rintro e w' ⟨rfl, rfl⟩) | (go_at_call 64; refine (inRange_no _ _ _ _ (by omega)).mono ?_; rintro e w' ⟨rfl, rfl⟩))
      go_ret
      exact ⟨rfl, hw0⟩
    · clear hp
      go_enter Try.func66, Try.ntmps66
      go_wp2_with (go_at_call 64; refine (inRange_no _ _ _ _ (by omega)).mono ?_; rintro e w' ⟨rfl, rfl⟩)
      go_ret
      exact ⟨rfl, hw0⟩
theorem at_any (r c : Int) (b o n k I : Nat) (row col x : Int) (w : World) (e1 : IntKind.i64.wrap (row * c) = row * c) (e2 : IntKind.i64.wrap (row * c + col) = (I : Int)) (hI : I < n) (hbl : b < w.heap.size) (hcell : w.cell? ⟨b, o + I, none⟩ = some (.int .i64 x)) :
    Calls Try.prog 67 #[.agg #[.int .i64 r, .int .i64 c, .slice (some ⟨b, o, none⟩) n k], .agg #[.int .i64 row, .int .i64 col]] w (Ret (.int .i64 x) w) := by
  obtain ⟨hw0, hlt0, hA, hB⟩ := two_slots w #[.int .i64 r, .int .i64 c, .slice (some ⟨b, o, none⟩) n k] #[.int .i64 row, .int .i64 col] 28 74
  have hc2 := (hw0.cell (p := ⟨b, o + I, none⟩) hbl).trans hcell
  have b1 : (0 : Int) ≤ (I : Int) := by omega
  have b2 : (I : Int) < (n : Int) := by omega
  go_enter Try.func67, Try.ntmps67
  go_wp2
  go_ret
  exact ⟨rfl, hw0⟩
set_option maxHeartbeats 1000000 in
theorem implCellAt_any (r c : Int) (a : Option Addr) (n k : Nat) (xs : List Int) (row col : Int) (w : World) (h : Rd .i64 w a n xs) (hn : n ≤ 1000000000) :
    Calls Try.prog 23 #[.agg #[.int .i64 r, .int .i64 c, .slice a n k], .int .i64 row, .int .i64 col] w (Ret (.tuple #[.int .i64 (rCellAt r c xs row col).1, .int .i64 (rCellAt r c xs row col).2]) w) := by
  have HL := Lib.hid h.len
  obtain ⟨hw0, hlt0, hA, hB⟩ := two_slots w #[.int .i64 r, .int .i64 c, .slice a n k] #[.int .i64 row, .int .i64 col] 28 74
  have HR0 := Lib.hid (h.to hw0)
  have c0 := hA 0 _ rfl
  have c1 := hA 1 _ rfl
  have c2 := hA 2 _ rfl
  have c3 := hB 0 _ rfl
  have c4 := hB 1 _ rfl
  clear hA hB
  cases hg : gridB r c xs with
  | false =>
    have hr := Lib.hid (show rCellAt r c xs row col = (0, 1) by unfold rCellAt; rw [if_pos hg])
    go_enter Try.func23, Try.ntmps23
    go_wp2_with fail
    refine (implIsGrid_any r c a n k xs _ HR0.out hn).mono ?_
    rw [hg]
    rintro e w1 ⟨rfl, hb1⟩
    have hB := bt hw0 hb1
    go_wp2_with fail
    go_ret2
    exact ⟨ret2_int hr.out, hB⟩
  | true =>
    obtain ⟨hr1, hc1, hp1, hp2⟩ := gridB_facts hg
    have HH := Lib.hid (fun w => has_any r c (.slice a n k) row col w hr1 hc1)
    by_cases hp : placeB r c row col
    · obtain ⟨m1, m2, m3, m4⟩ := place_at hr1 hc1 hp
      rw [decide_eq_true hp] at HH
      obtain ⟨I, hI⟩ : ∃ I : Nat, row * c + col = (I : Int) := Int.eq_ofNat_of_zero_le m3
      have e1 : IntKind.i64.wrap (row * c) = row * c := IntWalk.i64_in _ (by omega)
      have e2 : IntKind.i64.wrap (row * c + col) = (I : Int) := by rw [hI]; exact IntWalk.i64_in _ (by omega)
      have hIn : I < n := by have := HL.out; omega
      obtain ⟨b, o, x, rfl, hbl, hcell, hx, hx1, hx2⟩ := h.at_ hIn
      have hr := Lib.hid (show rCellAt r c xs row col = (x, 0) by
        unfold rCellAt
        rw [if_neg (by simp [hg]), if_neg (fun e => e hp), hI, Int.toNat_natCast, hx.out]
        rfl)
      have HAt := Lib.hid (fun (W : World) (hl : b < W.heap.size) (hc : W.cell? ⟨b, o + I, none⟩ = some (.int .i64 x)) => at_any r c b o n k I row col x W e1 e2 hIn hl hc)
      clear m1 m2 m3 m4 hI hp1 hp2 e1 e2 hp
      go_enter Try.func23, Try.ntmps23
      go_wp2_with fail
      refine (implIsGrid_any r c _ n k xs _ HR0.out hn).mono ?_
      rw [hg]
      rintro e w1 ⟨rfl, hb1⟩
      have hB := bt hw0 hb1
      have d0 := (hb1.cell (p := ⟨w.heap.size, 0, none⟩) (by simp; omega)).trans c0
      have d1 := (hb1.cell (p := ⟨w.heap.size, 1, none⟩) (by simp; omega)).trans c1
      have d2 := (hb1.cell (p := ⟨w.heap.size, 2, none⟩) (by simp; omega)).trans c2
      have d3 := (hb1.cell (p := ⟨w.heap.size + 1, 0, none⟩) (by simp)).trans c3
      have d4 := (hb1.cell (p := ⟨w.heap.size + 1, 1, none⟩) (by simp)).trans c4
      have hs1 := Nat.lt_of_lt_of_le hlt0 hb1.size
      clear hb1 c0 c1 c2 c3 c4
      go_wp2_with fail
      refine (HH.out _).mono ?_
      rintro e w2 ⟨rfl, hb2⟩
      have hB2 := bt hB hb2
      have f0 := (hb2.cell (p := ⟨w.heap.size, 0, none⟩) (show w.heap.size < w1.heap.size by omega)).trans d0
      have f1 := (hb2.cell (p := ⟨w.heap.size, 1, none⟩) (show w.heap.size < w1.heap.size by omega)).trans d1
      have f2 := (hb2.cell (p := ⟨w.heap.size, 2, none⟩) (show w.heap.size < w1.heap.size by omega)).trans d2
      have f3 := (hb2.cell (p := ⟨w.heap.size + 1, 0, none⟩) hs1).trans d3
      have f4 := (hb2.cell (p := ⟨w.heap.size + 1, 1, none⟩) hs1).trans d4
      have hcx := (hB2.cell (p := ⟨b, o + I, none⟩) hbl).trans hcell
      have hbx := Nat.lt_of_lt_of_le hbl hB2.size
      clear hb2 d0 d1 d2 d3 d4 hB
      go_wp2_with fail
      refine (HAt.out _ hbx hcx).mono ?_
      rintro e w3 ⟨rfl, hb3⟩
      have hB3 := bt hB2 hb3
      go_wp2_with fail
      go_ret2
      exact ⟨ret2_int hr.out, hB3⟩
    · rw [decide_eq_false hp] at HH
      have hr := Lib.hid (show rCellAt r c xs row col = (0, 2) by
        unfold rCellAt
        rw [if_neg (by simp [hg]), if_pos hp])
      clear hp
      go_enter Try.func23, Try.ntmps23
      go_wp2_with fail
      refine (implIsGrid_any r c _ n k xs _ HR0.out hn).mono ?_
      rw [hg]
      rintro e w1 ⟨rfl, hb1⟩
      have hB := bt hw0 hb1
      have d0 := (hb1.cell (p := ⟨w.heap.size, 0, none⟩) (by simp; omega)).trans c0
      have d1 := (hb1.cell (p := ⟨w.heap.size, 1, none⟩) (by simp; omega)).trans c1
      have d2 := (hb1.cell (p := ⟨w.heap.size, 2, none⟩) (by simp; omega)).trans c2
      have d3 := (hb1.cell (p := ⟨w.heap.size + 1, 0, none⟩) (by simp)).trans c3
      have d4 := (hb1.cell (p := ⟨w.heap.size + 1, 1, none⟩) (by simp)).trans c4
      clear hb1 c0 c1 c2 c3 c4
      go_wp2_with fail
      refine (HH.out _).mono ?_
      rintro e w2 ⟨rfl, hb2⟩
      have hB2 := bt hB hb2
      go_wp2_with fail
      go_ret2
      exact ⟨ret2_int hr.out, hB2⟩
def RetGrid (r c : Int) (xs : List Int) (w : World) (e : Ending) (w' : World) : Prop :=
  ∃ (a : Option Addr) (n k : Nat), e = .returned (.agg #[.int .i64 r, .int .i64 c, .slice a n k]) ∧ Ow .i64 2 w.heap.size w' a n k xs ∧ Below w.heap.size w w'
set_option maxHeartbeats 1000000 in
theorem toGrid_any (r c : Int) (a : Option Addr) (n k : Nat) (xs : List Int) (w : World) (h : Rd .i64 w a n xs) (hn : n ≤ 1048576) :
    Calls Try.prog 19 #[.agg #[.int .i64 r, .int .i64 c, .slice a n k]] w (RetGrid r c xs w) := by
  obtain ⟨g1, g2, g3, g4⟩ := three_slots w #[.int .i64 r, .int .i64 c, .slice a n k] #[.int .i64 0, .int .i64 0, .slice none 0 0] #[.int .i64 r, .int .i64 c, .slice none 0 0] 25 28 28
  have hR := h.to g1
  have hV : ∃ V, V = ((w.alloc (.cells #[.int .i64 r, .int .i64 c, .slice a n k] 25)).alloc (.cells #[.int .i64 0, .int .i64 0, .slice none 0 0] 28)).alloc (.cells #[.int .i64 r, .int .i64 c, .slice none 0 0] 28) := ⟨_, rfl⟩
  obtain ⟨V, hV⟩ := hV
  go_enter Try.func19, Try.ntmps19
  go_wp2_with fail
  rw [← hV] at g1 g2 g3 g4 hR ⊢
  refine (toInt64S_any a n k xs _ hR hn).mono ?_
  rintro e w1 ⟨a1, n1, c1, rfl, ho1, hb1⟩
  have hB := bt g1 hb1
  have t0 := (hb1.cell (p := ⟨w.heap.size + 1, 0, none⟩) (show w.heap.size + 1 < V.heap.size by omega)).trans (g3 0 _ rfl)
  have t1 := (hb1.cell (p := ⟨w.heap.size + 1, 1, none⟩) (show w.heap.size + 1 < V.heap.size by omega)).trans (g3 1 _ rfl)
  have t2 := (hb1.cell (p := ⟨w.heap.size + 1, 2, none⟩) (show w.heap.size + 1 < V.heap.size by omega)).trans (g3 2 _ rfl)
  have u0 := (hb1.cell (p := ⟨w.heap.size + 1 + 1, 0, none⟩) g2).trans (g4 0 _ rfl)
  have u1 := (hb1.cell (p := ⟨w.heap.size + 1 + 1, 1, none⟩) g2).trans (g4 1 _ rfl)
  have u2 := (hb1.cell (p := ⟨w.heap.size + 1 + 1, 2, none⟩) g2).trans (g4 2 _ rfl)
  have tz : ∀ i, w1.frozen? ⟨w.heap.size + 1, i, none⟩ = false := fun i => (hb1.frozen (p := ⟨w.heap.size + 1, i, none⟩) (show w.heap.size + 1 < V.heap.size by omega)).trans (by rw [hV]; exact (three_free w _ _ _ _ _ _ i).1)
  have uz : ∀ i, w1.frozen? ⟨w.heap.size + 1 + 1, i, none⟩ = false := fun i => (hb1.frozen (p := ⟨w.heap.size + 1 + 1, i, none⟩) g2).trans (by rw [hV]; exact (three_free w _ _ _ _ _ _ i).2)
  have hs1 := hb1.size
  have HO := Lib.hid ho1
  have HB := Lib.hid hB
  have HE := Lib.hid (grid_end (w1 := w1) (show w.heap.size + 1 ≠ w.heap.size + 1 + 1 by omega) (.int .i64 r) (.int .i64 c) (.slice a1 n1 c1) t0 t1 t2)
  clear hV hb1 g1 g3 g4 hR h ho1 hB
  go_wp2_with fail
  obtain ⟨e0, e1, e2, e3, e4⟩ := HE.out
  refine bodyPost_ret (v := .agg #[.int .i64 r, .int .i64 c, .slice a1 n1 c1]) (by simp [results, Try.results19, go_sem, e0, e1, e2]) rfl ⟨a1, n1, c1, rfl, ?_, ?_⟩
  · exact ((HO.out.kept e3 (fun g e => by injection e with e; omega)).kept e4 (fun g e => by injection e with e; omega)).more (by omega)
  · exact (HB.out.grown e3 (by omega) (fun g e => by injection e with e; omega)).grown e4 (by simp; omega) (fun g e => by injection e with e; omega)
theorem szInt64S_any (a : Option Addr) (n k : Nat) (w : World) (hn : n ≤ 9223372036854775807) :
    Calls Try.prog 65 #[.slice a n k, .int .i64 1048576] w (Ret (.int .i64 (if n ≤ 1048576 then 1048576 - n else -1)) w) := by
  by_cases h : n ≤ 1048576
  · rw [if_pos h]
    have d : decide ((1048576 : Int) - n < 0) = false := by simp; omega
    go_enter Try.func65, Try.ntmps65
    go_wp2
    go_ret
    exact ⟨rfl, Below.refl _ _⟩
  · rw [if_neg h]
    have d : decide ((1048576 : Int) - n < 0) = true := by simp; omega
    go_enter Try.func65, Try.ntmps65
    go_wp2
    go_ret
    exact ⟨rfl, Below.refl _ _⟩
theorem szGrid_any (r c : Int) (a : Option Addr) (n k : Nat) (w : World) (hn : n ≤ 9223372036854775807) :
    Calls Try.prog 17 #[.agg #[.int .i64 r, .int .i64 c, .slice a n k], .int .i64 1048576] w (Ret (.int .i64 (if n ≤ 1048576 then 1048576 - n else -1)) w) := by
  obtain ⟨hw0, hlt0, c0, c1, c2⟩ := grid_start w (.int .i64 r) (.int .i64 c) (.slice a n k) 25
  have HZ := Lib.hid (fun w => szInt64S_any a n k w hn)
  by_cases h : n ≤ 1048576
  · rw [if_pos h] at HZ ⊢
    have d : decide ((1048576 : Int) - n < 0) = false := by simp; omega
    go_enter Try.func17, Try.ntmps17
    go_wp2_with fail
    refine (HZ.out _).mono ?_
    rintro e w1 ⟨rfl, hb1⟩
    have hB := bt hw0 hb1
    go_wp2
    go_ret
    exact ⟨rfl, hB⟩
  · rw [if_neg h] at HZ ⊢
    go_enter Try.func17, Try.ntmps17
    go_wp2_with fail
    refine (HZ.out _).mono ?_
    rintro e w1 ⟨rfl, hb1⟩
    have hB := bt hw0 hb1
    go_wp2
    go_ret
    exact ⟨rfl, hB⟩
set_option maxHeartbeats 1000000 in
theorem eqGrid_same (r c : Int) (a b : Option Addr) (n m k d : Nat) (xs : List Int) (w : World) (ha : Rd .i64 w a n xs) (hb : Rd .i64 w b m xs) (hn : n ≤ 1000000000) :
    Calls Try.prog 21 #[.agg #[.int .i64 r, .int .i64 c, .slice a n k], .agg #[.int .i64 r, .int .i64 c, .slice b m d]] w (Ret (.bool true) w) := by
  obtain ⟨hw0, hlt0, hA, hB⟩ := two_slots w #[.int .i64 r, .int .i64 c, .slice a n k] #[.int .i64 r, .int .i64 c, .slice b m d] 28 28
  have hra := ha.to hw0
  have hrb := hb.to hw0
  have e1 : (r != r) = false := by simp
  have e2 : (c != c) = false := by simp
  go_enter Try.func21, Try.ntmps21
  go_wp2_with fail
  refine (eqInt64S_same a b n m k d xs _ hra hrb (by omega)).mono ?_
  rintro e w1 ⟨rfl, hq⟩
  have hB1 := bt hw0 (below_q hq)
  go_wp2
  go_ret
  exact ⟨rfl, hB1⟩
end Go.Proofs.Ytagdkaigdehohaa
