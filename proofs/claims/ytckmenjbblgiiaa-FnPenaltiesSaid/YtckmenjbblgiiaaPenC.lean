/-
  Contracts: the penalty of a grid, by the program: the state of its loops.
  Conditions: a valid grid without unknown cells.
-/
import Derived.Test.YtckmenjbblgiiaaPenB
set_option linter.unusedVariables false
namespace Go.Proofs.Ytckmenjbblgiiaa
open Go.RowKit Go.G8
/-- A block of three numbers that may be written. -/
def Blk3 (O : Nat) (x0 x1 x2 : Int) (w : World) : Prop :=
  O < w.heap.size ∧ w.cell? ⟨O, 0, none⟩ = some (.int .i64 x0) ∧ w.cell? ⟨O, 1, none⟩ = some (.int .i64 x1) ∧ w.cell? ⟨O, 2, none⟩ = some (.int .i64 x2) ∧ ∀ i, w.frozen? ⟨O, i, none⟩ = false
theorem Blk3.to {O : Nat} {x0 x1 x2 : Int} {w w' : World} (h : Blk3 O x0 x1 x2 w) (hb : Below w.heap.size w w') : Blk3 O x0 x1 x2 w' := by
  obtain ⟨h1, h2, h3, h4, h5⟩ := h
  have hs := hb.size
  exact ⟨by omega, ((bcell hb).1 O 0 h1).trans h2, ((bcell hb).1 O 1 h1).trans h3, ((bcell hb).1 O 2 h1).trans h4, fun i => ((bcell hb).2 O i h1).trans (h5 i)⟩
theorem Blk3.other {O Q j : Nat} {x0 x1 x2 : Int} {w : World} {u : Value} (h : Blk3 O x0 x1 x2 w) (hne : Q ≠ O) : Blk3 O x0 x1 x2 (w.setCell ⟨Q, j, none⟩ u) := by
  obtain ⟨h1, h2, h3, h4, h5⟩ := h
  have ne : ∀ i, (⟨Q, j, none⟩ : Addr) ≠ ⟨O, i, none⟩ := fun i e => hne (by injection e)
  exact ⟨by simpa using h1, by rw [World.cell?_setCell_other _ _ _ _ (ne 0)]; exact h2, by rw [World.cell?_setCell_other _ _ _ _ (ne 1)]; exact h3, by rw [World.cell?_setCell_other _ _ _ _ (ne 2)]; exact h4, fun i => (by have := h5 i; simpa using this)⟩
/-- Where the program's penalty stands: the grid in slot G, a counter in slot V, the three parts in block O, the result's block R. -/
def PenSt (G R O : Nat) (r c : Int) (s : Value) (V : Nat) (v x0 x1 : Int) (w : World) : Prop :=
  GV G V r c s v w ∧ Blk3 O x0 x1 0 w ∧ Blk3 R 0 0 0 w ∧ (V ≠ G ∧ V ≠ O ∧ V ≠ R ∧ O ≠ G ∧ O ≠ R ∧ R ≠ G) ∧ w.frozen? ⟨V, 0, none⟩ = false
def measP (r : Nat) : Value → World → Nat
  | .pointer (some a), wr => r - (match wr.cell? a with | some v => (intOf v).toNat | none => 0)
  | _, _ => 0
theorem measP_at {r : Nat} {V : Nat} {v : Int} {wr : World} (h : wr.cell? ⟨V, 0, none⟩ = some (.int .i64 v)) : measP r (.pointer (some ⟨V, 0, none⟩)) wr = r - v.toNat := by
  show (r - (match wr.cell? ⟨V, 0, none⟩ with | some v => (intOf v).toNat | none => 0)) = _
  rw [h]
  rfl
theorem PenSt.to {G R O V : Nat} {r c v x0 x1 : Int} {s : Value} {w w' : World} (h : PenSt G R O r c s V v x0 x1 w) (hb : Below w.heap.size w w') : PenSt G R O r c s V v x0 x1 w' := by
  obtain ⟨h1, h2, h3, h4, h5⟩ := h
  exact ⟨h1.to hb, h2.to hb, h3.to hb, h4, ((bcell hb).2 V 0 h1.2.1).trans h5⟩
theorem GV.other {G V O j : Nat} {r c v : Int} {s u : Value} {w : World} (h : GV G V r c s v w) (h1 : O ≠ G) (h2 : O ≠ V) : GV G V r c s v (w.setCell ⟨O, j, none⟩ u) := by
  obtain ⟨g1, g2, g3, g4, g5, g6⟩ := h
  have ne : ∀ q i, O ≠ q → (⟨O, j, none⟩ : Addr) ≠ ⟨q, i, none⟩ := fun q i hq e => hq (by injection e)
  exact ⟨by simpa using g1, by simpa using g2, by rw [World.cell?_setCell_other _ _ _ _ (ne G 0 h1)]; exact g3, by rw [World.cell?_setCell_other _ _ _ _ (ne G 1 h1)]; exact g4, by rw [World.cell?_setCell_other _ _ _ _ (ne G 2 h1)]; exact g5, by rw [World.cell?_setCell_other _ _ _ _ (ne V 0 h2)]; exact g6⟩
theorem PenSt.setO {G R O V : Nat} {r c v x0 x1 : Int} {s : Value} {w : World} (h : PenSt G R O r c s V v x0 x1 w) (y : Int) : PenSt G R O r c s V v y x1 (w.setCell ⟨O, 0, none⟩ (.int .i64 y)) := by
  obtain ⟨h1, ⟨b1, b2, b3, b4, b5⟩, h3, ⟨n1, n2, n3, n4, n5, n6⟩, h5⟩ := h
  have ne : ∀ i, i ≠ 0 → (⟨O, 0, none⟩ : Addr) ≠ ⟨O, i, none⟩ := fun i hi e => hi (by injection e with _ e; exact e.symm)
  refine ⟨h1.other n4 (fun e => n2 e.symm), ⟨by simpa using b1, World.cell?_setCell_same _ _ _ b2, by rw [World.cell?_setCell_other _ _ _ _ (ne 1 (by omega))]; exact b3, by rw [World.cell?_setCell_other _ _ _ _ (ne 2 (by omega))]; exact b4, fun i => by have := b5 i; simpa using this⟩, h3.other n5, ⟨n1, n2, n3, n4, n5, n6⟩, by simpa using h5⟩
theorem PenSt.setO1 {G R O V : Nat} {r c v x0 x1 : Int} {s : Value} {w : World} (h : PenSt G R O r c s V v x0 x1 w) (y : Int) : PenSt G R O r c s V v x0 y (w.setCell ⟨O, 1, none⟩ (.int .i64 y)) := by
  obtain ⟨h1, ⟨b1, b2, b3, b4, b5⟩, h3, ⟨n1, n2, n3, n4, n5, n6⟩, h5⟩ := h
  have ne : ∀ i, i ≠ 1 → (⟨O, 1, none⟩ : Addr) ≠ ⟨O, i, none⟩ := fun i hi e => hi (by injection e with _ e; exact e.symm)
  refine ⟨h1.other n4 (fun e => n2 e.symm), ⟨by simpa using b1, by rw [World.cell?_setCell_other _ _ _ _ (ne 0 (by omega))]; exact b2, World.cell?_setCell_same _ _ _ b3, by rw [World.cell?_setCell_other _ _ _ _ (ne 2 (by omega))]; exact b4, fun i => by have := b5 i; simpa using this⟩, h3.other n5, ⟨n1, n2, n3, n4, n5, n6⟩, by simpa using h5⟩
/-- A new counter. -/
theorem PenSt.next {G R O V : Nat} {r c v x0 x1 : Int} {s : Value} {w : World} (h : PenSt G R O r c s V v x0 x1 w) (T : TypeId) (v' : Int) : PenSt G R O r c s w.heap.size v' x0 x1 (w.alloc (.cells #[.int .i64 v'] T)) := by
  have hal := Below.alloc (Below.refl w.heap.size w) (Nat.le_refl _) (.cells #[.int .i64 v'] T)
  obtain ⟨⟨g1, g2, g3, g4, g5, g6⟩, h2, h3, ⟨n1, n2, n3, n4, n5, n6⟩, h5⟩ := h.to hal
  have e1 := h.1.1
  have e2 := h.2.1.1
  have e3 := h.2.2.1.1
  refine ⟨⟨g1, by simp, g3, g4, g5, ?_⟩, h2, h3, ⟨by omega, by omega, by omega, n4, n5, n6⟩, ?_⟩
  · rw [cell_of_row _ _ _ _ _ (0, 0) (heap_alloc_new w _)]; rfl
  · rw [frozen_of_row _ _ _ _ _ (heap_alloc_new w _)]
theorem at_bounds {r c v i n : Nat} (hn : n = r * c) (hr : r ≤ 40000) (hc : c ≤ 40000) (hv : v < r) (hi : i < c) : IntKind.i64.wrap ((v : Int) * (c : Int)) = (v : Int) * (c : Int) ∧ IntKind.i64.wrap ((v : Int) * (c : Int) + (i : Int)) = ((v * c + i : Nat) : Int) ∧ v * c + i < n := by
  have h1 : (v + 1) * c ≤ r * c := Nat.mul_le_mul_right c hv
  have h2 : r * c ≤ 40000 * 40000 := Nat.mul_le_mul hr hc
  rw [Nat.succ_mul] at h1
  have e : ((v * c : Nat) : Int) = (v : Int) * (c : Int) := Int.natCast_mul v c
  generalize hm : v * c = M at *
  rw [← e]
  exact ⟨IntWalk.i64_in _ (by omega), by rw [IntWalk.i64_in _ (by omega)]; omega, by omega⟩
theorem cellN_at {w W : World} {b o n I : Nat} {xs : List Int} (h : Rd .i64 w (some ⟨b, o, none⟩) n xs) (hb : Below w.heap.size w W) (hI : I < n) : b < W.heap.size ∧ W.cell? ⟨b, o + I, none⟩ = some (.int .i64 (cellN xs I)) := by
  obtain ⟨b', o', x, e, hl, hc, hx, -, -⟩ := (h.to hb).at_ hI
  injection e with e
  injection e with e1 e2
  subst e1 e2
  rw [cellN_of hx.out]
  exact ⟨hl, hc⟩
theorem run_row {G R O V b o n k r c v : Nat} {x0 x1 : Int} {xs : List Int} {w wr : World} (h : Rd .i64 w (some ⟨b, o, none⟩) n xs) (hn : n = r * c) (hr : r ≤ 40000) (hc : c ≤ 40000) (hv : v < r) (hst : PenSt G R O r c (.slice (some ⟨b, o, none⟩) n k) V v x0 x1 wr) (hB : Below w.heap.size w wr) :
    ∀ W, Below wr.heap.size wr W → Calls Try.prog 95 #[.int .i64 c, .func (.func 96) #[] #[.pointer (some ⟨G, 0, none⟩), .pointer (some ⟨V, 0, none⟩)]] W (Ret (.int .i64 (rowP c xs v : Nat)) W) := by
  intro W hW
  refine runPenalty1_any (fun i => cellN xs (v * c + i)) _ _ c W (by omega) (fun i W' hi hW' => ?_)
  obtain ⟨e1, e2, e3⟩ := at_bounds hn hr hc hv hi
  have hb2 := bt hW hW'
  obtain ⟨f1, f2⟩ := cellN_at h (bt hB hb2) e3
  exact pen1_any G V r c v i (cellN xs (v * c + i)) b o n k (v * c + i) W' ((hst.to hb2).1) e1 e2 e3 f1 f2
theorem run_col {G R O V b o n k r c v : Nat} {x0 x1 : Int} {xs : List Int} {w wr : World} (h : Rd .i64 w (some ⟨b, o, none⟩) n xs) (hn : n = r * c) (hr : r ≤ 40000) (hc : c ≤ 40000) (hv : v < c) (hst : PenSt G R O r c (.slice (some ⟨b, o, none⟩) n k) V v x0 x1 wr) (hB : Below w.heap.size w wr) :
    ∀ W, Below wr.heap.size wr W → Calls Try.prog 95 #[.int .i64 r, .func (.func 98) #[] #[.pointer (some ⟨G, 0, none⟩), .pointer (some ⟨V, 0, none⟩)]] W (Ret (.int .i64 (colP r c xs v : Nat)) W) := by
  intro W hW
  refine runPenalty2_any (fun i => cellN xs (i * c + v)) _ _ r W (by omega) (fun i W' hi hW' => ?_)
  obtain ⟨e1, e2, e3⟩ := at_bounds hn hr hc hi hv
  have hb2 := bt hW hW'
  obtain ⟨f1, f2⟩ := cellN_at h (bt hB hb2) e3
  exact pen2_any G V r c v i (cellN xs (i * c + v)) b o n k (i * c + v) W' ((hst.to hb2).1) e1 e2 e3 f1 f2
theorem rowP_le {c : Nat} (h : c ≤ 40000) (xs : List Int) (j : Nat) : rowP c xs j ≤ 120000 := by
  have := (runS_bd (fun k => cellN xs (j * c + k)) c).1
  unfold rowP
  omega
theorem colP_le {r : Nat} (h : r ≤ 40000) (c : Nat) (xs : List Int) (j : Nat) : colP r c xs j ≤ 120000 := by
  have := (runS_bd (fun k => cellN xs (k * c + j)) r).1
  unfold colP
  omega
theorem Blk3.new (w : World) (T : TypeId) : Blk3 w.heap.size 0 0 0 (w.alloc (.cells #[.int .i64 0, .int .i64 0, .int .i64 0] T)) := by
  refine ⟨by simp, ?_, ?_, ?_, fun i => ?_⟩
  · rw [cell_of_row _ _ _ _ _ (0, 0) (heap_alloc_new w _)]; rfl
  · rw [cell_of_row _ _ _ _ _ (0, 0) (heap_alloc_new w _)]; rfl
  · rw [cell_of_row _ _ _ _ _ (0, 0) (heap_alloc_new w _)]; rfl
  · rw [frozen_of_row _ _ _ _ _ (heap_alloc_new w _)]
theorem penst_start (w : World) (r c : Int) (s : Value) (T1 T2 T3 T4 : TypeId) : PenSt w.heap.size (w.heap.size + 1) (w.heap.size + 1 + 1) r c s (w.heap.size + 1 + 1 + 1) 0 0 0 ((((w.alloc (.cells #[.int .i64 r, .int .i64 c, s] T1)).alloc (.cells #[.int .i64 0, .int .i64 0, .int .i64 0] T2)).alloc (.cells #[.int .i64 0, .int .i64 0, .int .i64 0] T3)).alloc (.cells #[.int .i64 0] T4)) ∧
    Below w.heap.size w ((((w.alloc (.cells #[.int .i64 r, .int .i64 c, s] T1)).alloc (.cells #[.int .i64 0, .int .i64 0, .int .i64 0] T2)).alloc (.cells #[.int .i64 0, .int .i64 0, .int .i64 0] T3)).alloc (.cells #[.int .i64 0] T4)) := by
  obtain ⟨hw0, hlt0, c0, c1, c2⟩ := grid_start w (.int .i64 r) (.int .i64 c) s T1
  have hs0 : (w.alloc (.cells #[.int .i64 r, .int .i64 c, s] T1)).heap.size = w.heap.size + 1 := by simp
  generalize w.alloc (.cells #[.int .i64 r, .int .i64 c, s] T1) = W1 at *
  have hR := Blk3.new W1 T2
  have hb1 := Below.alloc (Below.refl W1.heap.size W1) (Nat.le_refl _) (.cells #[.int .i64 0, .int .i64 0, .int .i64 0] T2)
  have hs1 : (W1.alloc (.cells #[.int .i64 0, .int .i64 0, .int .i64 0] T2)).heap.size = w.heap.size + 1 + 1 := by simp [hs0]
  generalize W1.alloc (.cells #[.int .i64 0, .int .i64 0, .int .i64 0] T2) = W2 at *
  have hO := Blk3.new W2 T3
  have hb2 := Below.alloc (Below.refl W2.heap.size W2) (Nat.le_refl _) (.cells #[.int .i64 0, .int .i64 0, .int .i64 0] T3)
  have hs2 : (W2.alloc (.cells #[.int .i64 0, .int .i64 0, .int .i64 0] T3)).heap.size = w.heap.size + 1 + 1 + 1 := by simp [hs1]
  generalize W2.alloc (.cells #[.int .i64 0, .int .i64 0, .int .i64 0] T3) = W3 at *
  have hb3 := Below.alloc (Below.refl W3.heap.size W3) (Nat.le_refl _) (.cells #[.int .i64 0] T4)
  have hB := bt hb1 (bt hb2 hb3)
  have hsz : (W3.alloc (.cells #[.int .i64 0] T4)).heap.size = w.heap.size + 1 + 1 + 1 + 1 := by simp [hs2]
  have hV : (W3.alloc (.cells #[.int .i64 0] T4)).cell? ⟨W3.heap.size, 0, none⟩ = some (.int .i64 0) := by rw [cell_of_row _ _ _ _ _ (0, 0) (heap_alloc_new W3 _)]; rfl
  have hZ : (W3.alloc (.cells #[.int .i64 0] T4)).frozen? ⟨W3.heap.size, 0, none⟩ = false := by rw [frozen_of_row _ _ _ _ _ (heap_alloc_new W3 _)]
  rw [hs2] at hV hZ
  rw [hs0] at hR
  rw [hs1] at hO
  exact ⟨⟨⟨by omega, by omega, ((bcell hB).1 _ 0 hlt0).trans c0, ((bcell hB).1 _ 1 hlt0).trans c1, ((bcell hB).1 _ 2 hlt0).trans c2, hV⟩, hO.to hb3, hR.to (bt hb2 hb3), ⟨by omega, by omega, by omega, by omega, by omega, by omega⟩, hZ⟩, bt hw0 hB⟩
theorem cell_call {b o n k r c i j : Nat} {xs : List Int} {w : World} (h : Rd .i64 w (some ⟨b, o, none⟩) n xs) (hn : n = r * c) (hr : r ≤ 40000) (hc : c ≤ 40000) (hi : i < r) (hj : j < c) (p q : Int) (hp : p = (i : Int)) (hq : q = (j : Int)) :
    ∀ W, Below w.heap.size w W → Calls Try.prog 97 #[.agg #[.int .i64 r, .int .i64 c, .slice (some ⟨b, o, none⟩) n k], .agg #[.int .i64 p, .int .i64 q]] W (Ret (.int .i64 (cellN xs (i * c + j))) W) := by
  intro W hW
  subst hp hq
  obtain ⟨e1, e2, e3⟩ := at_bounds hn hr hc hi hj
  obtain ⟨f1, f2⟩ := cellN_at h hW e3
  exact at_any r c b o n k (i * c + j) i j _ W e1 e2 e3 f1 f2
theorem cell_zo {xs : List Int} (hz : zo xs) (I : Nat) : 0 ≤ cellN xs I ∧ cellN xs I ≤ 1 := by
  unfold cellN
  cases hx : xs[I]? with
  | none => simp
  | some x => have := hz x (List.mem_of_getElem? hx); simp; omega
theorem sq_yes {c : Nat} {xs : List Int} {i j : Nat} (hz : zo xs) (h : (cellN xs (i * c + j) + cellN xs (i * c + (j + 1)) + cellN xs ((i + 1) * c + j) + cellN xs ((i + 1) * c + (j + 1))) % 4 = 0) : sqP c xs i j = 3 := by
  have h1 := cell_zo hz (i * c + j)
  have h2 := cell_zo hz (i * c + (j + 1))
  have h3 := cell_zo hz ((i + 1) * c + j)
  have h4 := cell_zo hz ((i + 1) * c + (j + 1))
  unfold sqP sq4
  rw [if_pos]
  show cellN xs (i * c + j) + cellN xs (i * c + (j + 1)) + cellN xs ((i + 1) * c + j) + cellN xs ((i + 1) * c + (j + 1)) = 0 ∨ cellN xs (i * c + j) + cellN xs (i * c + (j + 1)) + cellN xs ((i + 1) * c + j) + cellN xs ((i + 1) * c + (j + 1)) = 4
  omega
theorem sq_no {c : Nat} {xs : List Int} {i j : Nat} (hz : zo xs) (h : ¬ (cellN xs (i * c + j) + cellN xs (i * c + (j + 1)) + cellN xs ((i + 1) * c + j) + cellN xs ((i + 1) * c + (j + 1))) % 4 = 0) : sqP c xs i j = 0 := by
  have h1 := cell_zo hz (i * c + j)
  have h2 := cell_zo hz (i * c + (j + 1))
  have h3 := cell_zo hz ((i + 1) * c + j)
  have h4 := cell_zo hz ((i + 1) * c + (j + 1))
  unfold sqP sq4
  rw [if_neg]
  show ¬ (cellN xs (i * c + j) + cellN xs (i * c + (j + 1)) + cellN xs ((i + 1) * c + j) + cellN xs ((i + 1) * c + (j + 1)) = 0 ∨ cellN xs (i * c + j) + cellN xs (i * c + (j + 1)) + cellN xs ((i + 1) * c + j) + cellN xs ((i + 1) * c + (j + 1)) = 4)
  omega
theorem sqP_le (c : Nat) (xs : List Int) (i j : Nat) : sqP c xs i j ≤ 3 := by unfold sqP; split <;> omega
theorem sqRow_le {c : Nat} (hc : c ≤ 40000) (xs : List Int) (i : Nat) : sqRow c xs i ≤ 120000 := by
  have := sumN_le (B := 3) (c - 1) (fun j (_ : j < c - 1) => sqP_le c xs i j)
  unfold sqRow
  omega
end Go.Proofs.Ytckmenjbblgiiaa
