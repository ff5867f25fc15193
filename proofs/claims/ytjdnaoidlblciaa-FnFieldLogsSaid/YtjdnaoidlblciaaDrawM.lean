/-
  Contracts: what the reference draws for products of elements.
  Conditions: codes of at most 4096 bytes.
-/
import Derived.Test.YtjdnaoidlblciaaDrawE
set_option linter.unusedVariables false
namespace Go.Proofs.Ytjdnaoidlblciaa
open Go.RowKit Go.G8
def DrawnM (w : World) (e : Ending) (w' : World) : Prop :=
  ∃ p q y a b : Int, e = .returned (.tuple #[.agg #[.int .i64 p, .int .i64 q, .int .i64 y], .int .i64 a, .int .i64 b]) ∧ (-200000 ≤ p ∧ p ≤ 200000) ∧ (-200000 ≤ q ∧ q ≤ 200000) ∧ (-200000 ≤ y ∧ y ≤ 200000) ∧ (-9223372036854775808 ≤ a ∧ a ≤ 9223372036854775807) ∧ (-9223372036854775808 ≤ b ∧ b ≤ 9223372036854775807) ∧ Below w.heap.size w w'
theorem start_slot (w : World) (T : TypeId) : Below w.heap.size w (w.alloc (.cells #[.int .i64 0, .int .i64 0, .int .i64 0] T)) ∧ ∃ V, V = w.alloc (.cells #[.int .i64 0, .int .i64 0, .int .i64 0] T) ∧ w.heap.size < V.heap.size ∧ V.cell? ⟨w.heap.size, 0, none⟩ = some (.int .i64 0) ∧ V.cell? ⟨w.heap.size, 1, none⟩ = some (.int .i64 0) ∧ V.cell? ⟨w.heap.size, 2, none⟩ = some (.int .i64 0) ∧ ∀ i, V.frozen? ⟨w.heap.size, i, none⟩ = false := by
  obtain ⟨s1, s2, s3, s4, s5, s6⟩ := start_fld w T
  exact ⟨s1, _, rfl, s2, s3, s4, s5, s6⟩
theorem slot_on {w W W' : World} {u0 u1 u2 : Value} (hb : Below W.heap.size W W') (hB : Below w.heap.size w W) (hlt : w.heap.size < W.heap.size) (c0 : W.cell? ⟨w.heap.size, 0, none⟩ = some u0) (c1 : W.cell? ⟨w.heap.size, 1, none⟩ = some u1) (c2 : W.cell? ⟨w.heap.size, 2, none⟩ = some u2) (hz : ∀ i, W.frozen? ⟨w.heap.size, i, none⟩ = false) :
    Below w.heap.size w W' ∧ w.heap.size < W'.heap.size ∧ W'.cell? ⟨w.heap.size, 0, none⟩ = some u0 ∧ W'.cell? ⟨w.heap.size, 1, none⟩ = some u1 ∧ W'.cell? ⟨w.heap.size, 2, none⟩ = some u2 ∧ ∀ i, W'.frozen? ⟨w.heap.size, i, none⟩ = false := by
  obtain ⟨hcc, hff⟩ := bcell hb
  exact ⟨bt hB hb, Nat.lt_of_lt_of_le hlt hb.size, (hcc _ 0 hlt).trans c0, (hcc _ 1 hlt).trans c1, (hcc _ 2 hlt).trans c2, fun i => (hff _ i hlt).trans (hz i)⟩
theorem slot_src {S : Nat} {w W W' : World} {u0 u1 u2 : Value} (hg : W.grownBy W' (some S)) (hS : w.heap.size < S) (hB : Below w.heap.size w W) (hlt : w.heap.size < W.heap.size) (c0 : W.cell? ⟨w.heap.size, 0, none⟩ = some u0) (c1 : W.cell? ⟨w.heap.size, 1, none⟩ = some u1) (c2 : W.cell? ⟨w.heap.size, 2, none⟩ = some u2) (hz : ∀ i, W.frozen? ⟨w.heap.size, i, none⟩ = false) :
    Below w.heap.size w W' ∧ w.heap.size < W'.heap.size ∧ W'.cell? ⟨w.heap.size, 0, none⟩ = some u0 ∧ W'.cell? ⟨w.heap.size, 1, none⟩ = some u1 ∧ W'.cell? ⟨w.heap.size, 2, none⟩ = some u2 ∧ ∀ i, W'.frozen? ⟨w.heap.size, i, none⟩ = false := by
  have hne : w.heap.size ≠ S := by omega
  exact ⟨hB.grown hg (Nat.le_of_lt hlt) (fun k e => by injection e with e; omega), Nat.lt_of_lt_of_le hlt hg.size, (gcell hg hlt hne 0).1.trans c0, (gcell hg hlt hne 1).1.trans c1, (gcell hg hlt hne 2).1.trans c2, fun i => (gcell hg hlt hne i).2.trans (hz i)⟩
theorem slot_end {w W : World} (x y z : Int) {u0 u1 u2 : Value} (hB : Below w.heap.size w W) (hlt : w.heap.size < W.heap.size) (c0 : W.cell? ⟨w.heap.size, 0, none⟩ = some u0) (c1 : W.cell? ⟨w.heap.size, 1, none⟩ = some u1) (c2 : W.cell? ⟨w.heap.size, 2, none⟩ = some u2) :
    (((W.setCell ⟨w.heap.size, 0, none⟩ (.int .i64 x)).setCell ⟨w.heap.size, 1, none⟩ (.int .i64 y)).setCell ⟨w.heap.size, 2, none⟩ (.int .i64 z)).cell? ⟨w.heap.size, 0, none⟩ = some (.int .i64 x) ∧
    (((W.setCell ⟨w.heap.size, 0, none⟩ (.int .i64 x)).setCell ⟨w.heap.size, 1, none⟩ (.int .i64 y)).setCell ⟨w.heap.size, 2, none⟩ (.int .i64 z)).cell? ⟨w.heap.size, 1, none⟩ = some (.int .i64 y) ∧
    (((W.setCell ⟨w.heap.size, 0, none⟩ (.int .i64 x)).setCell ⟨w.heap.size, 1, none⟩ (.int .i64 y)).setCell ⟨w.heap.size, 2, none⟩ (.int .i64 z)).cell? ⟨w.heap.size, 2, none⟩ = some (.int .i64 z) ∧
    Below w.heap.size w (((W.setCell ⟨w.heap.size, 0, none⟩ (.int .i64 x)).setCell ⟨w.heap.size, 1, none⟩ (.int .i64 y)).setCell ⟨w.heap.size, 2, none⟩ (.int .i64 z)) := by
  obtain ⟨e0, e1, e2, hg⟩ := set3c W w.heap.size x y z c0 c1 c2
  exact ⟨e0, e1, e2, hB.grown hg (Nat.le_of_lt hlt) (fun k e => by injection e with e; omega)⟩
theorem set3_other (W : World) {b b' : Nat} (j : Nat) (x y z : Value) (hne : b ≠ b') : (((W.setCell ⟨b, 0, none⟩ x).setCell ⟨b, 1, none⟩ y).setCell ⟨b, 2, none⟩ z).cell? ⟨b', j, none⟩ = W.cell? ⟨b', j, none⟩ := by
  rw [World.cell?_setCell_other _ _ _ _ (by intro e; injection e; omega), World.cell?_setCell_other _ _ _ _ (by intro e; injection e; omega), World.cell?_setCell_other _ _ _ _ (by intro e; injection e; omega)]
set_option maxHeartbeats 1000000 in
set_option maxRecDepth 20000 in
theorem drawFieldAdd_any (a : Option Addr) (n c : Nat) (xs : List Int) (w : World) (h : Rd .u8 w a n xs) (hn : n ≤ 4096) :
    Calls Try.prog 66 #[.slice a n c] w (DrawnM w) := by
  obtain ⟨hb0, V, hV, s0, s1, s2, s3, s4⟩ := start_slot w 26
  have hR := h.to hb0
  go_enter Try.func66, Try.ntmps66
  go_wp2_with fail
  rw [← hV] at hb0 hR ⊢
  clear hV
  refine (l01From_any a n c xs _ hR hn).mono ?_
  rintro e w1 ⟨S, rfl, hS, hb1⟩
  clear h hR
  have hSV := (Src_le hS).1
  obtain ⟨hB1, t0, t1, t2, t3, t4⟩ := slot_on hb1 hb0 s0 s1 s2 s3 s4
  clear hb1 hb0 s1 s2 s3 s4
  have HB1 := Lib.hid hB1
  clear hB1
  go_wp2_with fail
  refine (l02DrawAny_any _ S _ hS).mono ?_
  rintro e w2 ⟨p, q, y, rfl, hp, hq, hy, hS2, hg2⟩
  obtain ⟨hB2, v0, v1, v2, v3, v4⟩ := slot_src hg2 (by omega) HB1.out t0 t1 t2 t3 t4
  have HB2 := Lib.hid hB2
  clear hB2 hg2 t0 t1 t2 t3 t4 HB1 hS
  have HN := Lib.hid (new_fld w2 (.int .i64 p) (.int .i64 q) (.int .i64 y) 26)
  have hSw2 := (Src_le hS2).2.2
  have hA : Below w2.heap.size w2 (w2.alloc (.cells #[.int .i64 p, .int .i64 q, .int .i64 y] 26)) := Below.alloc (Below.refl _ _) (Nat.le_refl _) _
  obtain ⟨hB3, x0, x1, x2, x3, x4⟩ := slot_on hA HB2.out v0 v1 v2 v3 v4
  have HSA := Lib.hid (src_keep hS2 hA)
  have HB3 := Lib.hid hB3
  clear HB2 v0 v1 v2 v3 v4 hA hS2 hB3
  go_wp2_with fail
  refine (l02DrawElement_any _ S p q y _ HSA.out).mono ?_
  rintro e w3 ⟨r, rfl, hr, hS3, hg3⟩
  obtain ⟨n0, n1, n2, n3⟩ := HN.out
  have hne : w2.heap.size ≠ S := by omega
  have f0 := (gcell hg3 n3 hne 0).1.trans n0
  have f1 := (gcell hg3 n3 hne 1).1.trans n1
  have f2 := (gcell hg3 n3 hne 2).1.trans n2
  have f3 := Nat.lt_of_lt_of_le n3 hg3.size
  obtain ⟨hB4, z0, z1, z2, z3, z4⟩ := slot_src hg3 (by omega) HB3.out x0 x1 x2 x3 x4
  have HB4 := Lib.hid hB4
  clear hB4 hg3 x0 x1 x2 x3 x4 HB3 HSA HN n0 n1 n2 n3
  have hd3 : Below w3.heap.size w3 w3.drew := (Below.refl _ _).drew
  have hS3d := src_keep hS3 hd3
  have hFd := f3
  obtain ⟨hB4, z0, z1, z2, z3, z4⟩ := slot_on hd3 HB4.out z0 z1 z2 z3 z4
  have hn2 : w.heap.size ≠ w2.heap.size := by omega
  have HE := Lib.hid (l02DrawElement_any _ S p q y _ hS3d)
  have HG := Lib.hid (fun w' (hg4 : w3.drew.grownBy w' (some S)) => slot_src hg4 (by omega) hB4 z0 z1 z2 z3 z4)
  have HF := Lib.hid (fun w' (hg4 : w3.drew.grownBy w' (some S)) => (show w'.cell? ⟨w2.heap.size, 0, none⟩ = some (.int .i64 p) ∧ w'.cell? ⟨w2.heap.size, 1, none⟩ = some (.int .i64 q) ∧ w'.cell? ⟨w2.heap.size, 2, none⟩ = some (.int .i64 y) from
    have hlt := Nat.lt_of_lt_of_le f3 hd3.size
    ⟨((gcell hg4 hlt hne 0).1.trans (hd3.cell (p := ⟨w2.heap.size, 0, none⟩) f3)).trans f0, ((gcell hg4 hlt hne 1).1.trans (hd3.cell (p := ⟨w2.heap.size, 1, none⟩) f3)).trans f1, ((gcell hg4 hlt hne 2).1.trans (hd3.cell (p := ⟨w2.heap.size, 2, none⟩) f3)).trans f2⟩))
  clear hd3 hS3d hFd z1 z2 z3 z4 z0 HB4 hB4
  go_wp2_with fail
  go_region_held3 (fun w' => w'.cell? ⟨w2.heap.size, 0, none⟩ = some (.int .i64 p) ∧ w'.cell? ⟨w2.heap.size, 1, none⟩ = some (.int .i64 q) ∧ w'.cell? ⟨w2.heap.size, 2, none⟩ = some (.int .i64 y)) (first | exact ⟨f0, f1, f2⟩ | exact HF.out _ hg4 | exact ⟨(set3_other w4 0 _ _ _ hn2).trans (HF.out _ hg4).1, (set3_other w4 1 _ _ _ hn2).trans (HF.out _ hg4).2.1, (set3_other w4 2 _ _ _ hn2).trans (HF.out _ hg4).2.2⟩ | go_keep) (first | (go_at_call 108; refine HE.out.mono ?_; rintro e w4 ⟨r2, rfl, hr2, hS4, hg4⟩; obtain ⟨hB5, u0, u1, u2, u3, u4⟩ := HG.out _ hg4; obtain ⟨y0, y1, y2, y3⟩ := slot_end p q y hB5 u0 u1 u2 u3))
  all_goals go_wp2_with fail
  all_goals refine bodyPost_ret (v := .tuple #[.agg #[.int .i64 p, .int .i64 q, .int .i64 y], .int .i64 r, .int .i64 r2]) (by simp [results, Try.results66, go_sem, y0, y1, y2]) rfl ⟨p, q, y, r, r2, rfl, hp, hq, hy, hr, hr2, y3⟩
set_option maxRecDepth 20000 in
theorem drawFieldMul_any (a : Option Addr) (n c : Nat) (xs : List Int) (w : World) (h : Rd .u8 w a n xs) (hn : n ≤ 4096) :
    Calls Try.prog 20 #[.slice a n c] w (DrawnM w) := by
  obtain ⟨hb0, V, hV, s0, s1, s2, s3, s4⟩ := start_slot w 26
  have hR := h.to hb0
  go_enter Try.func20, Try.ntmps20
  go_wp2_with fail
  rw [← hV] at hb0 hR ⊢
  clear hV
  refine (drawFieldAdd_any a n c xs _ hR hn).mono ?_
  rintro e w1 ⟨p, q, y, r, s, rfl, h1, h2, h3, h4, h5, hb1⟩
  obtain ⟨hB1, t0, t1, t2, t3, t4⟩ := slot_on hb1 hb0 s0 s1 s2 s3 s4
  obtain ⟨y0, y1, y2, y3⟩ := slot_end p q y hB1 t0 t1 t2 t3
  have HY := Lib.hid y3
  clear hb1 hb0 hB1 s1 s2 s3 s4 y3
  go_wp2_with fail
  refine bodyPost_ret (v := .tuple #[.agg #[.int .i64 p, .int .i64 q, .int .i64 y], .int .i64 r, .int .i64 s]) (by simp [results, Try.results20, go_sem, y0, y1, y2]) rfl ⟨p, q, y, r, s, rfl, h1, h2, h3, h4, h5, HY.out⟩
end Go.Proofs.Ytjdnaoidlblciaa
