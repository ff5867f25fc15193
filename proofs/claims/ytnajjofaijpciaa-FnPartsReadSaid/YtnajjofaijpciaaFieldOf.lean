/-
  Contracts: the field of a size, by the reference and by the program.
  Conditions: none.
-/
import Derived.Test.YtnajjofaijpciaaFieldH
set_option linter.unusedVariables false
namespace Go.Proofs.Ytnajjofaijpciaa
open Go.RowKit Go.G8
def firstFrom (f : Nat → Bool) : Nat → Nat → Option Nat
  | 0, _ => none
  | n + 1, k => if f k then some k else firstFrom f n (k + 1)
theorem firstFrom_yes {f : Nat → Bool} {n k : Nat} (h : f k = true) : firstFrom f (n + 1) k = some k := by unfold firstFrom; rw [if_pos h]
theorem firstFrom_no {f : Nat → Bool} {n k : Nat} (h : f k = false) : firstFrom f (n + 1) k = firstFrom f n (k + 1) := by rw [firstFrom, if_neg (by rw [h]; simp)]
def genOf (p : Int) : Option Nat := firstFrom (fun g => runP p g) (p - 2).toNat 2
theorem genOf_one {p : Int} (hp : 3 ≤ p) : firstFrom (fun g => runP p g) (p - 1).toNat 1 = genOf p := by
  unfold genOf
  rw [show (p - 1).toNat = (p - 2).toNat + 1 by omega, firstFrom_no (by exact run_one hp)]
def polyOf (P : Nat) : Option Nat := firstFrom (fun y => fieldB 2 P y) (2 ^ P) (2 ^ P)
def loopB (size : Int) : Nat → Nat → (Int × Int × Int) × Int
  | 0, _ => ((0, 0, 0), 4)
  | n + 1, P => if size = 2 ^ P then (match polyOf P with | some y => ((2, P, y), 0) | none => loopB size n (P + 1)) else loopB size n (P + 1)
theorem loopB_end (size : Int) (P : Nat) : loopB size 0 P = ((0, 0, 0), 4) := rfl
theorem loopB_skip {size : Int} {n P : Nat} (h : ¬ size = 2 ^ P) : loopB size (n + 1) P = loopB size n (P + 1) := by rw [loopB, if_neg h]
theorem loopB_none {size : Int} {n P : Nat} (h : size = 2 ^ P) (h2 : polyOf P = none) : loopB size (n + 1) P = loopB size n (P + 1) := by rw [loopB, if_pos h, h2]
theorem loopB_some {size : Int} {n P y : Nat} (h : size = 2 ^ P) (h2 : polyOf P = some y) : loopB size (n + 1) P = ((2, (P : Int), (y : Int)), 0) := by rw [loopB, if_pos h, h2]
def rFieldOf (size : Int) : (Int × Int × Int) × Int :=
  if 3 ≤ size ∧ size ≤ 1021 ∧ primeB size = true then (match genOf size with | some g => ((size, 1, (g : Int)), 0) | none => loopB size 6 3) else loopB size 6 3
theorem rFieldOf_range {size : Int} (h : ¬ (3 ≤ size ∧ size ≤ 1021)) : rFieldOf size = loopB size 6 3 := by
  unfold rFieldOf; rw [if_neg (fun c => h ⟨c.1, c.2.1⟩)]
theorem rFieldOf_nop {size : Int} (h : primeB size = false) : rFieldOf size = loopB size 6 3 := by
  unfold rFieldOf; rw [if_neg (fun c => by rw [h] at c; exact absurd c.2.2 (by simp))]
theorem rFieldOf_none {size : Int} (h : genOf size = none) : rFieldOf size = loopB size 6 3 := by
  unfold rFieldOf; split <;> simp [h]
theorem rFieldOf_some {size : Int} {g : Nat} (h : 3 ≤ size ∧ size ≤ 1021) (h2 : primeB size = true) (h3 : genOf size = some g) : rFieldOf size = ((size, 1, (g : Int)), 0) := by
  unfold rFieldOf; rw [if_pos ⟨h.1, h.2, h2⟩, h3]
theorem ret_fld {a b c d : Int} {r : (Int × Int × Int) × Int} (h : r = ((a, b, c), d)) : Ending.returned (.tuple #[.agg #[.int .i64 a, .int .i64 b, .int .i64 c], .int .i64 d]) = .returned (.tuple #[.agg #[.int .i64 r.1.1, .int .i64 r.1.2.1, .int .i64 r.1.2.2], .int .i64 r.2]) := by rw [h]
theorem polyOf_eq {P s : Nat} (h : 2 ^ P = s) : polyOf P = firstFrom (fun y => fieldB 2 P y) s s := by unfold polyOf; rw [h]
theorem stored3 (w wr : World) (a b c : Int) {u0 u1 u2 : Value} (hbw : Below w.heap.size w wr) (hlt : w.heap.size < wr.heap.size) (c0 : wr.cell? ⟨w.heap.size, 0, none⟩ = some u0) (c1 : wr.cell? ⟨w.heap.size, 1, none⟩ = some u1) (c2 : wr.cell? ⟨w.heap.size, 2, none⟩ = some u2) :
    (((wr.setCell ⟨w.heap.size, 0, none⟩ (.int .i64 a)).setCell ⟨w.heap.size, 1, none⟩ (.int .i64 b)).setCell ⟨w.heap.size, 2, none⟩ (.int .i64 c)).cell? ⟨w.heap.size, 0, none⟩ = some (.int .i64 a) ∧
    (((wr.setCell ⟨w.heap.size, 0, none⟩ (.int .i64 a)).setCell ⟨w.heap.size, 1, none⟩ (.int .i64 b)).setCell ⟨w.heap.size, 2, none⟩ (.int .i64 c)).cell? ⟨w.heap.size, 1, none⟩ = some (.int .i64 b) ∧
    (((wr.setCell ⟨w.heap.size, 0, none⟩ (.int .i64 a)).setCell ⟨w.heap.size, 1, none⟩ (.int .i64 b)).setCell ⟨w.heap.size, 2, none⟩ (.int .i64 c)).cell? ⟨w.heap.size, 2, none⟩ = some (.int .i64 c) ∧
    Below w.heap.size w (((wr.setCell ⟨w.heap.size, 0, none⟩ (.int .i64 a)).setCell ⟨w.heap.size, 1, none⟩ (.int .i64 b)).setCell ⟨w.heap.size, 2, none⟩ (.int .i64 c)) := by
  have n10 : (⟨w.heap.size, 1, none⟩ : Addr) ≠ ⟨w.heap.size, 0, none⟩ := by intro e; injection e; omega
  have n20 : (⟨w.heap.size, 2, none⟩ : Addr) ≠ ⟨w.heap.size, 0, none⟩ := by intro e; injection e; omega
  have n21 : (⟨w.heap.size, 2, none⟩ : Addr) ≠ ⟨w.heap.size, 1, none⟩ := by intro e; injection e; omega
  have h0 := World.cell?_setCell_same _ _ (.int .i64 a) c0
  have h1 := World.cell?_setCell_same _ _ (.int .i64 b) ((World.cell?_setCell_other wr _ _ (.int .i64 a) n10.symm).trans c1)
  have h2 := World.cell?_setCell_same _ _ (.int .i64 c) ((World.cell?_setCell_other (wr.setCell ⟨w.heap.size, 0, none⟩ (.int .i64 a)) _ _ (.int .i64 b) n21.symm).trans ((World.cell?_setCell_other wr _ _ (.int .i64 a) n20.symm).trans c2))
  refine ⟨?_, ?_, h2, ?_⟩
  · rw [World.cell?_setCell_other _ _ _ _ n20, World.cell?_setCell_other _ _ _ _ n10]; exact h0
  · rw [World.cell?_setCell_other _ _ _ _ n21]; exact h1
  exact ((hbw.setCell (Nat.le_refl _) _).setCell (Nat.le_refl _) _).setCell (Nat.le_refl _) _
theorem new_fld (wr : World) (a b c : Value) (T : TypeId) :
    (wr.alloc (.cells #[a, b, c] T)).cell? ⟨wr.heap.size, 0, none⟩ = some a ∧ (wr.alloc (.cells #[a, b, c] T)).cell? ⟨wr.heap.size, 1, none⟩ = some b ∧ (wr.alloc (.cells #[a, b, c] T)).cell? ⟨wr.heap.size, 2, none⟩ = some c ∧ wr.heap.size < (wr.alloc (.cells #[a, b, c] T)).heap.size := by
  refine ⟨?_, ?_, ?_, by simp⟩ <;> rw [cell_of_row _ _ _ _ _ (0, 0) (heap_alloc_new wr _)] <;> rfl
theorem old_fld {w wr w1 : World} {o : Obj} {v0 v1 v2 : Value} (hbw : Below w.heap.size w wr) (hlt : w.heap.size < wr.heap.size) (c0 : wr.cell? ⟨w.heap.size, 0, none⟩ = some v0) (c1 : wr.cell? ⟨w.heap.size, 1, none⟩ = some v1) (c2 : wr.cell? ⟨w.heap.size, 2, none⟩ = some v2)
    (hfz : ∀ i, wr.frozen? ⟨w.heap.size, i, none⟩ = false) (hb1 : Below (wr.alloc o).heap.size (wr.alloc o) w1) :
    w1.cell? ⟨w.heap.size, 0, none⟩ = some v0 ∧ w1.cell? ⟨w.heap.size, 1, none⟩ = some v1 ∧ w1.cell? ⟨w.heap.size, 2, none⟩ = some v2 ∧ (∀ i, w1.frozen? ⟨w.heap.size, i, none⟩ = false) ∧ Below w.heap.size w w1 ∧ w.heap.size < w1.heap.size := by
  have hb2 : Below wr.heap.size wr w1 := bt (Below.alloc (Below.refl wr.heap.size wr) (Nat.le_refl _) o) hb1
  obtain ⟨hcc, hff⟩ := bcell hb2
  exact ⟨(hcc _ 0 hlt).trans c0, (hcc _ 1 hlt).trans c1, (hcc _ 2 hlt).trans c2, fun i => (hff _ i hlt).trans (hfz i), bt hbw hb2, Nat.lt_of_lt_of_le hlt hb2.size⟩
theorem old_fld0 {w wr w1 : World} {v0 v1 v2 : Value} (hbw : Below w.heap.size w wr) (hlt : w.heap.size < wr.heap.size) (c0 : wr.cell? ⟨w.heap.size, 0, none⟩ = some v0) (c1 : wr.cell? ⟨w.heap.size, 1, none⟩ = some v1) (c2 : wr.cell? ⟨w.heap.size, 2, none⟩ = some v2)
    (hfz : ∀ i, wr.frozen? ⟨w.heap.size, i, none⟩ = false) (hb2 : Below wr.heap.size wr w1) :
    w1.cell? ⟨w.heap.size, 0, none⟩ = some v0 ∧ w1.cell? ⟨w.heap.size, 1, none⟩ = some v1 ∧ w1.cell? ⟨w.heap.size, 2, none⟩ = some v2 ∧ (∀ i, w1.frozen? ⟨w.heap.size, i, none⟩ = false) ∧ Below w.heap.size w w1 ∧ w.heap.size < w1.heap.size := by
  obtain ⟨hcc, hff⟩ := bcell hb2
  exact ⟨(hcc _ 0 hlt).trans c0, (hcc _ 1 hlt).trans c1, (hcc _ 2 hlt).trans c2, fun i => (hff _ i hlt).trans (hfz i), bt hbw hb2, Nat.lt_of_lt_of_le hlt hb2.size⟩
theorem start_fld (w : World) (T : TypeId) : Below w.heap.size w (w.alloc (.cells #[.int .i64 0, .int .i64 0, .int .i64 0] T)) ∧ w.heap.size < (w.alloc (.cells #[.int .i64 0, .int .i64 0, .int .i64 0] T)).heap.size ∧
    (w.alloc (.cells #[.int .i64 0, .int .i64 0, .int .i64 0] T)).cell? ⟨w.heap.size, 0, none⟩ = some (.int .i64 0) ∧ (w.alloc (.cells #[.int .i64 0, .int .i64 0, .int .i64 0] T)).cell? ⟨w.heap.size, 1, none⟩ = some (.int .i64 0) ∧ (w.alloc (.cells #[.int .i64 0, .int .i64 0, .int .i64 0] T)).cell? ⟨w.heap.size, 2, none⟩ = some (.int .i64 0) ∧
    (∀ i, (w.alloc (.cells #[.int .i64 0, .int .i64 0, .int .i64 0] T)).frozen? ⟨w.heap.size, i, none⟩ = false) := by
  obtain ⟨h0, h1, h2, h3⟩ := new_fld w (.int .i64 0) (.int .i64 0) (.int .i64 0) T
  exact ⟨Below.alloc (Below.refl _ _) (Nat.le_refl _) _, h3, h0, h1, h2, fun i => frozen_of_row _ _ _ _ _ (heap_alloc_new w _)⟩
theorem cell3 {w1 w2 : World} {b : Nat} {x1 x2 x3 : Value} (hb : Below w1.heap.size w1 w2) (hlt : b < w1.heap.size) (c1 : w1.cell? ⟨b, 0, none⟩ = some x1) (c2 : w1.cell? ⟨b, 1, none⟩ = some x2) (c3 : w1.cell? ⟨b, 2, none⟩ = some x3) :
    w2.cell? ⟨b, 0, none⟩ = some x1 ∧ w2.cell? ⟨b, 1, none⟩ = some x2 ∧ w2.cell? ⟨b, 2, none⟩ = some x3 := by
  obtain ⟨hcc, hff⟩ := bcell hb
  exact ⟨(hcc b 0 hlt).trans c1, (hcc b 1 hlt).trans c2, (hcc b 2 hlt).trans c3⟩
set_option maxHeartbeats 4000000 in
set_option maxRecDepth 100000 in
theorem fieldOf_spec (size : Int) (w : World) (hsz : -9223372036854775808 ≤ size ∧ size ≤ 9223372036854775807) :
    Calls Try.prog 86 #[.int .i64 size] w (RetB (.tuple #[.agg #[.int .i64 (rFieldOf size).1.1, .int .i64 (rFieldOf size).1.2.1, .int .i64 (rFieldOf size).1.2.2], .int .i64 (rFieldOf size).2]) w) := by
  obtain ⟨R, hR⟩ : ∃ R, rFieldOf size = R := ⟨_, rfl⟩
  have HR := Lib.hid hR
  rw [hR]
  clear hR
  have HS := Lib.hid (start_fld w 36)
  go_enter Try.func86, Try.ntmps86
  go_wp2_with fail
  rename_i K hK K1 hK1 K2 hK2
  have HK : ∀ {x1 x3 x4 x5 x6 x7 x8 x9 x10 x11 x12 x13 x14 x15 x16 x17 x18 x19 x20 x21 x22 x23 x24 x25 x26 x27 x28 x29 x30 x31 x32 x33 x34 x35 x36 x37 x38 x39 x40 x41 x42 x43 x44 x45 x46 x47 x48 x49 : Value} {wr : World}, Hid (loopB size 6 3 = R) → Below w.heap.size w wr → w.heap.size < wr.heap.size → wr.cell? ⟨w.heap.size, 0, none⟩ = some (.int .i64 0) → wr.cell? ⟨w.heap.size, 1, none⟩ = some (.int .i64 0) → wr.cell? ⟨w.heap.size, 2, none⟩ = some (.int .i64 0) →
      (∀ i, wr.frozen? ⟨w.heap.size, i, none⟩ = false) → K ⟨#[.int .i64 size, x1, .pointer (some ⟨w.heap.size, 0, none⟩), x3, x4, x5, x6, x7, x8, x9, x10, x11, x12, x13, x14, x15, x16, x17, x18, x19, x20, x21, x22, x23, x24, x25, x26, x27, x28, x29, x30, x31, x32, x33, x34, x35, x36, x37, x38, x39, x40, x41, x42, x43, x44, x45, x46, x47, x48, x49], []⟩ wr := by
    intro x1 x3 x4 x5 x6 x7 x8 x9 x10 x11 x12 x13 x14 x15 x16 x17 x18 x19 x20 x21 x22 x23 x24 x25 x26 x27 x28 x29 x30 x31 x32 x33 x34 x35 x36 x37 x38 x39 x40 x41 x42 x43 x44 x45 x46 x47 x48 x49 wr hL hbw hlt hc0 hc1 hc2 hfz
    refine hK _ _ ?_
    clear hK2 K2 hK1 K1 hK K HR
    go_wp2
    go_loopw [6, 7, 8] (fun pw _ _ wr => ∃ P : Nat, 3 ≤ P ∧ P ≤ 9 ∧ pw = .int .i64 P ∧ Hid (loopB size (9 - P) P = R) ∧ Below w.heap.size w wr ∧ w.heap.size < wr.heap.size ∧ wr.cell? ⟨w.heap.size, 0, none⟩ = some (.int .i64 0) ∧ wr.cell? ⟨w.heap.size, 1, none⟩ = some (.int .i64 0) ∧ wr.cell? ⟨w.heap.size, 2, none⟩ = some (.int .i64 0) ∧ (∀ i, wr.frozen? ⟨w.heap.size, i, none⟩ = false)) (fun pw _ _ _ => 9 - (intOf pw).toNat)
    case atStart => exact ⟨3, by omega, by omega, by go_num, hL, hbw, hlt, hc0, hc1, hc2, hfz⟩
    case round =>
      clear hL hbw hlt hc0 hc1 hc2 hfz
      obtain ⟨P, hP1, hP2, rfl, hL, hbw, hlt, hc0, hc1, hc2, hfz⟩ := hrel
      by_cases h9 : P = 9
      · subst h9
        have hr := Lib.hid (hL.out.symm.trans (loopB_end size 9))
        go_wp2
        obtain ⟨e0, e1, e2, hb2⟩ := stored3 w wr 0 0 0 hbw hlt hc0 hc1 hc2
        refine bodyPost_ret (v := .tuple #[.agg #[.int .i64 0, .int .i64 0, .int .i64 0], .int .i64 4]) (by simp [results, Try.results86, go_sem, e0, e1, e2]) rfl ⟨ret_fld hr.out, hb2⟩
      · rcases (show P = 3 ∨ P = 4 ∨ P = 5 ∨ P = 6 ∨ P = 7 ∨ P = 8 by omega) with rfl | rfl | rfl | rfl | rfl | rfl
        · by_cases hs : size = 8
          · subst hs
            have HL := Lib.hid hL.out
            clear hL hP1 hP2 h9
            go_wp2
            go_loopw [7, 8] (fun pl _ wr => ∃ k : Nat, 8 ≤ k ∧ k ≤ 16 ∧ pl = .int .i64 k ∧ Hid (firstFrom (fun y => fieldB 2 (3 : Nat) y) (16 - k) k = polyOf 3) ∧ Below w.heap.size w wr ∧ w.heap.size < wr.heap.size ∧ wr.cell? ⟨w.heap.size, 0, none⟩ = some (.int .i64 0) ∧ wr.cell? ⟨w.heap.size, 1, none⟩ = some (.int .i64 0) ∧ wr.cell? ⟨w.heap.size, 2, none⟩ = some (.int .i64 0) ∧ (∀ i, wr.frozen? ⟨w.heap.size, i, none⟩ = false)) (fun pl _ _ => 16 - (intOf pl).toNat)
            case atStart => exact ⟨8, by omega, by omega, by go_num, Lib.hid (polyOf_eq (P := 3) (s := 8) (by decide)).symm, hbw, hlt, hc0, hc1, hc2, hfz⟩
            case round =>
              clear hbw hlt hc0 hc1 hc2 hfz
              obtain ⟨k, hk1, hk2, rfl, hL, hbw, hlt, hc0, hc1, hc2, hfz⟩ := hrel
              by_cases hk : k < 16
              · have hk3 : (k : Int) < 16 := by omega
                have hnf := new_fld wr (.int .i64 2) (.int .i64 3) (.int .i64 k) 36
                cases hb : fieldB 2 (3 : Nat) (k : Int) with
                | true =>
                  have hr := Lib.hid (HL.out.symm.trans (loopB_some (n := 5) (P := 3) (y := k) (by decide) (hL.out.symm.trans (by rw [show 16 - k = (16 - (k + 1)) + 1 by omega]; exact firstFrom_yes hb))))
                  have HB := Lib.hid hb
                  have HNF := Lib.hid hnf
                  clear hb hL hnf
                  go_wp2_with fail
                  refine (isField_spec 2 (3 : Nat) k _).mono ?_
                  rw [HB.out]
                  rintro e w1 ⟨rfl, hb1⟩
                  obtain ⟨d0, d1, d2, d3⟩ := HNF.out
                  obtain ⟨g0, g1, g2⟩ := cell3 hb1 d3 d0 d1 d2
                  obtain ⟨f0, f1, f2, f3, f4, f5⟩ := old_fld hbw hlt hc0 hc1 hc2 hfz hb1
                  clear d0 d1 d2 hc0 hc1 hc2 hfz HNF hb1
                  go_wp2_with fail
                  obtain ⟨e0, e1, e2, hb2⟩ := stored3 w w1 2 3 k f4 f5 f0 f1 f2
                  refine bodyPost_ret (v := .tuple #[.agg #[.int .i64 2, .int .i64 3, .int .i64 k], .int .i64 0]) (by simp [results, Try.results86, go_sem, e0, e1, e2]) rfl ⟨ret_fld hr.out, hb2⟩
                | false =>
                  have hn := Lib.hid ((firstFrom_no hb).symm.trans ((show firstFrom (fun y => fieldB 2 (3 : Nat) y) ((16 - (k + 1)) + 1) k = polyOf 3 by rw [← hL.out]; congr 1; omega)))
                  have HB := Lib.hid hb
                  clear hb hL hnf
                  go_wp2_with fail
                  refine (isField_spec 2 (3 : Nat) k _).mono ?_
                  rw [HB.out]
                  rintro e w1 ⟨rfl, hb1⟩
                  obtain ⟨f0, f1, f2, f3, f4, f5⟩ := old_fld hbw hlt hc0 hc1 hc2 hfz hb1
                  clear hc0 hc1 hc2 hfz hb1 hbw hlt
                  go_wp2_with fail
                  refine ⟨?_, by simp [intOf]; omega⟩
                  (repeat apply Exists.intro)
                  refine ⟨?_, rfl⟩
                  exact ⟨k + 1, by omega, by omega, by go_num, hn, f4, f5, f0, f1, f2, f3⟩
              · obtain rfl : k = 16 := by omega
                have hn := Lib.hid ((loopB_none (size := 8) (n := 5) (P := 3) (by decide) hL.out.symm).symm.trans HL.out)
                clear hk
                go_wp2
                exact ⟨⟨4, by omega, by omega, by go_num, hn, hbw, hlt, hc0, hc1, hc2, hfz⟩, by simp [intOf]⟩
          · have hsb : (size != 8) = true := by rw [bne_iff_ne]; exact hs
            have hn := Lib.hid ((loopB_skip (n := 5) (P := 3) hs).symm.trans hL.out)
            clear hs hL h9
            go_wp2
            exact ⟨⟨4, by omega, by omega, by go_num, hn, hbw, hlt, hc0, hc1, hc2, hfz⟩, by simp [intOf]⟩
        · by_cases hs : size = 16
          · subst hs
            have HL := Lib.hid hL.out
            clear hL hP1 hP2 h9
            go_wp2
            go_loopw [7, 8] (fun pl _ wr => ∃ k : Nat, 16 ≤ k ∧ k ≤ 32 ∧ pl = .int .i64 k ∧ Hid (firstFrom (fun y => fieldB 2 (4 : Nat) y) (32 - k) k = polyOf 4) ∧ Below w.heap.size w wr ∧ w.heap.size < wr.heap.size ∧ wr.cell? ⟨w.heap.size, 0, none⟩ = some (.int .i64 0) ∧ wr.cell? ⟨w.heap.size, 1, none⟩ = some (.int .i64 0) ∧ wr.cell? ⟨w.heap.size, 2, none⟩ = some (.int .i64 0) ∧ (∀ i, wr.frozen? ⟨w.heap.size, i, none⟩ = false)) (fun pl _ _ => 32 - (intOf pl).toNat)
            case atStart => exact ⟨16, by omega, by omega, by go_num, Lib.hid (polyOf_eq (P := 4) (s := 16) (by decide)).symm, hbw, hlt, hc0, hc1, hc2, hfz⟩
            case round =>
              clear hbw hlt hc0 hc1 hc2 hfz
              obtain ⟨k, hk1, hk2, rfl, hL, hbw, hlt, hc0, hc1, hc2, hfz⟩ := hrel
              by_cases hk : k < 32
              · have hk3 : (k : Int) < 32 := by omega
                have hnf := new_fld wr (.int .i64 2) (.int .i64 4) (.int .i64 k) 36
                cases hb : fieldB 2 (4 : Nat) (k : Int) with
                | true =>
                  have hr := Lib.hid (HL.out.symm.trans (loopB_some (n := 4) (P := 4) (y := k) (by decide) (hL.out.symm.trans (by rw [show 32 - k = (32 - (k + 1)) + 1 by omega]; exact firstFrom_yes hb))))
                  have HB := Lib.hid hb
                  have HNF := Lib.hid hnf
                  clear hb hL hnf
                  go_wp2_with fail
                  refine (isField_spec 2 (4 : Nat) k _).mono ?_
                  rw [HB.out]
                  rintro e w1 ⟨rfl, hb1⟩
                  obtain ⟨d0, d1, d2, d3⟩ := HNF.out
                  obtain ⟨g0, g1, g2⟩ := cell3 hb1 d3 d0 d1 d2
                  obtain ⟨f0, f1, f2, f3, f4, f5⟩ := old_fld hbw hlt hc0 hc1 hc2 hfz hb1
                  clear d0 d1 d2 hc0 hc1 hc2 hfz HNF hb1
                  go_wp2_with fail
                  obtain ⟨e0, e1, e2, hb2⟩ := stored3 w w1 2 4 k f4 f5 f0 f1 f2
                  refine bodyPost_ret (v := .tuple #[.agg #[.int .i64 2, .int .i64 4, .int .i64 k], .int .i64 0]) (by simp [results, Try.results86, go_sem, e0, e1, e2]) rfl ⟨ret_fld hr.out, hb2⟩
                | false =>
                  have hn := Lib.hid ((firstFrom_no hb).symm.trans ((show firstFrom (fun y => fieldB 2 (4 : Nat) y) ((32 - (k + 1)) + 1) k = polyOf 4 by rw [← hL.out]; congr 1; omega)))
                  have HB := Lib.hid hb
                  clear hb hL hnf
                  go_wp2_with fail
                  refine (isField_spec 2 (4 : Nat) k _).mono ?_
                  rw [HB.out]
                  rintro e w1 ⟨rfl, hb1⟩
                  obtain ⟨f0, f1, f2, f3, f4, f5⟩ := old_fld hbw hlt hc0 hc1 hc2 hfz hb1
                  clear hc0 hc1 hc2 hfz hb1 hbw hlt
                  go_wp2_with fail
                  refine ⟨?_, by simp [intOf]; omega⟩
                  (repeat apply Exists.intro)
                  refine ⟨?_, rfl⟩
                  exact ⟨k + 1, by omega, by omega, by go_num, hn, f4, f5, f0, f1, f2, f3⟩
              · obtain rfl : k = 32 := by omega
                have hn := Lib.hid ((loopB_none (size := 16) (n := 4) (P := 4) (by decide) hL.out.symm).symm.trans HL.out)
                clear hk
                go_wp2
                exact ⟨⟨5, by omega, by omega, by go_num, hn, hbw, hlt, hc0, hc1, hc2, hfz⟩, by simp [intOf]⟩
          · have hsb : (size != 16) = true := by rw [bne_iff_ne]; exact hs
            have hn := Lib.hid ((loopB_skip (n := 4) (P := 4) hs).symm.trans hL.out)
            clear hs hL h9
            go_wp2
            exact ⟨⟨5, by omega, by omega, by go_num, hn, hbw, hlt, hc0, hc1, hc2, hfz⟩, by simp [intOf]⟩
        · by_cases hs : size = 32
          · subst hs
            have HL := Lib.hid hL.out
            clear hL hP1 hP2 h9
            go_wp2
            go_loopw [7, 8] (fun pl _ wr => ∃ k : Nat, 32 ≤ k ∧ k ≤ 64 ∧ pl = .int .i64 k ∧ Hid (firstFrom (fun y => fieldB 2 (5 : Nat) y) (64 - k) k = polyOf 5) ∧ Below w.heap.size w wr ∧ w.heap.size < wr.heap.size ∧ wr.cell? ⟨w.heap.size, 0, none⟩ = some (.int .i64 0) ∧ wr.cell? ⟨w.heap.size, 1, none⟩ = some (.int .i64 0) ∧ wr.cell? ⟨w.heap.size, 2, none⟩ = some (.int .i64 0) ∧ (∀ i, wr.frozen? ⟨w.heap.size, i, none⟩ = false)) (fun pl _ _ => 64 - (intOf pl).toNat)
            case atStart => exact ⟨32, by omega, by omega, by go_num, Lib.hid (polyOf_eq (P := 5) (s := 32) (by decide)).symm, hbw, hlt, hc0, hc1, hc2, hfz⟩
            case round =>
              clear hbw hlt hc0 hc1 hc2 hfz
              obtain ⟨k, hk1, hk2, rfl, hL, hbw, hlt, hc0, hc1, hc2, hfz⟩ := hrel
              by_cases hk : k < 64
              · have hk3 : (k : Int) < 64 := by omega
                have hnf := new_fld wr (.int .i64 2) (.int .i64 5) (.int .i64 k) 36
                cases hb : fieldB 2 (5 : Nat) (k : Int) with
                | true =>
                  have hr := Lib.hid (HL.out.symm.trans (loopB_some (n := 3) (P := 5) (y := k) (by decide) (hL.out.symm.trans (by rw [show 64 - k = (64 - (k + 1)) + 1 by omega]; exact firstFrom_yes hb))))
                  have HB := Lib.hid hb
                  have HNF := Lib.hid hnf
                  clear hb hL hnf
                  go_wp2_with fail
                  refine (isField_spec 2 (5 : Nat) k _).mono ?_
                  rw [HB.out]
                  rintro e w1 ⟨rfl, hb1⟩
                  obtain ⟨d0, d1, d2, d3⟩ := HNF.out
                  obtain ⟨g0, g1, g2⟩ := cell3 hb1 d3 d0 d1 d2
                  obtain ⟨f0, f1, f2, f3, f4, f5⟩ := old_fld hbw hlt hc0 hc1 hc2 hfz hb1
                  clear d0 d1 d2 hc0 hc1 hc2 hfz HNF hb1
                  go_wp2_with fail
                  obtain ⟨e0, e1, e2, hb2⟩ := stored3 w w1 2 5 k f4 f5 f0 f1 f2
                  refine bodyPost_ret (v := .tuple #[.agg #[.int .i64 2, .int .i64 5, .int .i64 k], .int .i64 0]) (by simp [results, Try.results86, go_sem, e0, e1, e2]) rfl ⟨ret_fld hr.out, hb2⟩
                | false =>
                  have hn := Lib.hid ((firstFrom_no hb).symm.trans ((show firstFrom (fun y => fieldB 2 (5 : Nat) y) ((64 - (k + 1)) + 1) k = polyOf 5 by rw [← hL.out]; congr 1; omega)))
                  have HB := Lib.hid hb
                  clear hb hL hnf
                  go_wp2_with fail
                  refine (isField_spec 2 (5 : Nat) k _).mono ?_
                  rw [HB.out]
                  rintro e w1 ⟨rfl, hb1⟩
                  obtain ⟨f0, f1, f2, f3, f4, f5⟩ := old_fld hbw hlt hc0 hc1 hc2 hfz hb1
                  clear hc0 hc1 hc2 hfz hb1 hbw hlt
                  go_wp2_with fail
                  refine ⟨?_, by simp [intOf]; omega⟩
                  (repeat apply Exists.intro)
                  refine ⟨?_, rfl⟩
                  exact ⟨k + 1, by omega, by omega, by go_num, hn, f4, f5, f0, f1, f2, f3⟩
              · obtain rfl : k = 64 := by omega
                have hn := Lib.hid ((loopB_none (size := 32) (n := 3) (P := 5) (by decide) hL.out.symm).symm.trans HL.out)
                clear hk
                go_wp2
                exact ⟨⟨6, by omega, by omega, by go_num, hn, hbw, hlt, hc0, hc1, hc2, hfz⟩, by simp [intOf]⟩
          · have hsb : (size != 32) = true := by rw [bne_iff_ne]; exact hs
            have hn := Lib.hid ((loopB_skip (n := 3) (P := 5) hs).symm.trans hL.out)
            clear hs hL h9
            go_wp2
            exact ⟨⟨6, by omega, by omega, by go_num, hn, hbw, hlt, hc0, hc1, hc2, hfz⟩, by simp [intOf]⟩
        · by_cases hs : size = 64
          · subst hs
            have HL := Lib.hid hL.out
            clear hL hP1 hP2 h9
            go_wp2
            go_loopw [7, 8] (fun pl _ wr => ∃ k : Nat, 64 ≤ k ∧ k ≤ 128 ∧ pl = .int .i64 k ∧ Hid (firstFrom (fun y => fieldB 2 (6 : Nat) y) (128 - k) k = polyOf 6) ∧ Below w.heap.size w wr ∧ w.heap.size < wr.heap.size ∧ wr.cell? ⟨w.heap.size, 0, none⟩ = some (.int .i64 0) ∧ wr.cell? ⟨w.heap.size, 1, none⟩ = some (.int .i64 0) ∧ wr.cell? ⟨w.heap.size, 2, none⟩ = some (.int .i64 0) ∧ (∀ i, wr.frozen? ⟨w.heap.size, i, none⟩ = false)) (fun pl _ _ => 128 - (intOf pl).toNat)
            case atStart => exact ⟨64, by omega, by omega, by go_num, Lib.hid (polyOf_eq (P := 6) (s := 64) (by decide)).symm, hbw, hlt, hc0, hc1, hc2, hfz⟩
            case round =>
              clear hbw hlt hc0 hc1 hc2 hfz
              obtain ⟨k, hk1, hk2, rfl, hL, hbw, hlt, hc0, hc1, hc2, hfz⟩ := hrel
              by_cases hk : k < 128
              · have hk3 : (k : Int) < 128 := by omega
                have hnf := new_fld wr (.int .i64 2) (.int .i64 6) (.int .i64 k) 36
                cases hb : fieldB 2 (6 : Nat) (k : Int) with
                | true =>
                  have hr := Lib.hid (HL.out.symm.trans (loopB_some (n := 2) (P := 6) (y := k) (by decide) (hL.out.symm.trans (by rw [show 128 - k = (128 - (k + 1)) + 1 by omega]; exact firstFrom_yes hb))))
                  have HB := Lib.hid hb
                  have HNF := Lib.hid hnf
                  clear hb hL hnf
                  go_wp2_with fail
                  refine (isField_spec 2 (6 : Nat) k _).mono ?_
                  rw [HB.out]
                  rintro e w1 ⟨rfl, hb1⟩
                  obtain ⟨d0, d1, d2, d3⟩ := HNF.out
                  obtain ⟨g0, g1, g2⟩ := cell3 hb1 d3 d0 d1 d2
                  obtain ⟨f0, f1, f2, f3, f4, f5⟩ := old_fld hbw hlt hc0 hc1 hc2 hfz hb1
                  clear d0 d1 d2 hc0 hc1 hc2 hfz HNF hb1
                  go_wp2_with fail
                  obtain ⟨e0, e1, e2, hb2⟩ := stored3 w w1 2 6 k f4 f5 f0 f1 f2
                  refine bodyPost_ret (v := .tuple #[.agg #[.int .i64 2, .int .i64 6, .int .i64 k], .int .i64 0]) (by simp [results, Try.results86, go_sem, e0, e1, e2]) rfl ⟨ret_fld hr.out, hb2⟩
                | false =>
                  have hn := Lib.hid ((firstFrom_no hb).symm.trans ((show firstFrom (fun y => fieldB 2 (6 : Nat) y) ((128 - (k + 1)) + 1) k = polyOf 6 by rw [← hL.out]; congr 1; omega)))
                  have HB := Lib.hid hb
                  clear hb hL hnf
                  go_wp2_with fail
                  refine (isField_spec 2 (6 : Nat) k _).mono ?_
                  rw [HB.out]
                  rintro e w1 ⟨rfl, hb1⟩
                  obtain ⟨f0, f1, f2, f3, f4, f5⟩ := old_fld hbw hlt hc0 hc1 hc2 hfz hb1
                  clear hc0 hc1 hc2 hfz hb1 hbw hlt
                  go_wp2_with fail
                  refine ⟨?_, by simp [intOf]; omega⟩
                  (repeat apply Exists.intro)
                  refine ⟨?_, rfl⟩
                  exact ⟨k + 1, by omega, by omega, by go_num, hn, f4, f5, f0, f1, f2, f3⟩
              · obtain rfl : k = 128 := by omega
                have hn := Lib.hid ((loopB_none (size := 64) (n := 2) (P := 6) (by decide) hL.out.symm).symm.trans HL.out)
                clear hk
                go_wp2
                exact ⟨⟨7, by omega, by omega, by go_num, hn, hbw, hlt, hc0, hc1, hc2, hfz⟩, by simp [intOf]⟩
          · have hsb : (size != 64) = true := by rw [bne_iff_ne]; exact hs
            have hn := Lib.hid ((loopB_skip (n := 2) (P := 6) hs).symm.trans hL.out)
            clear hs hL h9
            go_wp2
            exact ⟨⟨7, by omega, by omega, by go_num, hn, hbw, hlt, hc0, hc1, hc2, hfz⟩, by simp [intOf]⟩
        · by_cases hs : size = 128
          · subst hs
            have HL := Lib.hid hL.out
            clear hL hP1 hP2 h9
            go_wp2
            go_loopw [7, 8] (fun pl _ wr => ∃ k : Nat, 128 ≤ k ∧ k ≤ 256 ∧ pl = .int .i64 k ∧ Hid (firstFrom (fun y => fieldB 2 (7 : Nat) y) (256 - k) k = polyOf 7) ∧ Below w.heap.size w wr ∧ w.heap.size < wr.heap.size ∧ wr.cell? ⟨w.heap.size, 0, none⟩ = some (.int .i64 0) ∧ wr.cell? ⟨w.heap.size, 1, none⟩ = some (.int .i64 0) ∧ wr.cell? ⟨w.heap.size, 2, none⟩ = some (.int .i64 0) ∧ (∀ i, wr.frozen? ⟨w.heap.size, i, none⟩ = false)) (fun pl _ _ => 256 - (intOf pl).toNat)
            case atStart => exact ⟨128, by omega, by omega, by go_num, Lib.hid (polyOf_eq (P := 7) (s := 128) (by decide)).symm, hbw, hlt, hc0, hc1, hc2, hfz⟩
            case round =>
              clear hbw hlt hc0 hc1 hc2 hfz
              obtain ⟨k, hk1, hk2, rfl, hL, hbw, hlt, hc0, hc1, hc2, hfz⟩ := hrel
              by_cases hk : k < 256
              · have hk3 : (k : Int) < 256 := by omega
                have hnf := new_fld wr (.int .i64 2) (.int .i64 7) (.int .i64 k) 36
                cases hb : fieldB 2 (7 : Nat) (k : Int) with
                | true =>
                  have hr := Lib.hid (HL.out.symm.trans (loopB_some (n := 1) (P := 7) (y := k) (by decide) (hL.out.symm.trans (by rw [show 256 - k = (256 - (k + 1)) + 1 by omega]; exact firstFrom_yes hb))))
                  have HB := Lib.hid hb
                  have HNF := Lib.hid hnf
                  clear hb hL hnf
                  go_wp2_with fail
                  refine (isField_spec 2 (7 : Nat) k _).mono ?_
                  rw [HB.out]
                  rintro e w1 ⟨rfl, hb1⟩
                  obtain ⟨d0, d1, d2, d3⟩ := HNF.out
                  obtain ⟨g0, g1, g2⟩ := cell3 hb1 d3 d0 d1 d2
                  obtain ⟨f0, f1, f2, f3, f4, f5⟩ := old_fld hbw hlt hc0 hc1 hc2 hfz hb1
                  clear d0 d1 d2 hc0 hc1 hc2 hfz HNF hb1
                  go_wp2_with fail
                  obtain ⟨e0, e1, e2, hb2⟩ := stored3 w w1 2 7 k f4 f5 f0 f1 f2
                  refine bodyPost_ret (v := .tuple #[.agg #[.int .i64 2, .int .i64 7, .int .i64 k], .int .i64 0]) (by simp [results, Try.results86, go_sem, e0, e1, e2]) rfl ⟨ret_fld hr.out, hb2⟩
                | false =>
                  have hn := Lib.hid ((firstFrom_no hb).symm.trans ((show firstFrom (fun y => fieldB 2 (7 : Nat) y) ((256 - (k + 1)) + 1) k = polyOf 7 by rw [← hL.out]; congr 1; omega)))
                  have HB := Lib.hid hb
                  clear hb hL hnf
                  go_wp2_with fail
                  refine (isField_spec 2 (7 : Nat) k _).mono ?_
                  rw [HB.out]
                  rintro e w1 ⟨rfl, hb1⟩
                  obtain ⟨f0, f1, f2, f3, f4, f5⟩ := old_fld hbw hlt hc0 hc1 hc2 hfz hb1
                  clear hc0 hc1 hc2 hfz hb1 hbw hlt
                  go_wp2_with fail
                  refine ⟨?_, by simp [intOf]; omega⟩
                  (repeat apply Exists.intro)
                  refine ⟨?_, rfl⟩
                  exact ⟨k + 1, by omega, by omega, by go_num, hn, f4, f5, f0, f1, f2, f3⟩
              · obtain rfl : k = 256 := by omega
                have hn := Lib.hid ((loopB_none (size := 128) (n := 1) (P := 7) (by decide) hL.out.symm).symm.trans HL.out)
                clear hk
                go_wp2
                exact ⟨⟨8, by omega, by omega, by go_num, hn, hbw, hlt, hc0, hc1, hc2, hfz⟩, by simp [intOf]⟩
          · have hsb : (size != 128) = true := by rw [bne_iff_ne]; exact hs
            have hn := Lib.hid ((loopB_skip (n := 1) (P := 7) hs).symm.trans hL.out)
            clear hs hL h9
            go_wp2
            exact ⟨⟨8, by omega, by omega, by go_num, hn, hbw, hlt, hc0, hc1, hc2, hfz⟩, by simp [intOf]⟩
        · by_cases hs : size = 256
          · subst hs
            have HL := Lib.hid hL.out
            clear hL hP1 hP2 h9
            go_wp2
            go_loopw [7, 8] (fun pl _ wr => ∃ k : Nat, 256 ≤ k ∧ k ≤ 512 ∧ pl = .int .i64 k ∧ Hid (firstFrom (fun y => fieldB 2 (8 : Nat) y) (512 - k) k = polyOf 8) ∧ Below w.heap.size w wr ∧ w.heap.size < wr.heap.size ∧ wr.cell? ⟨w.heap.size, 0, none⟩ = some (.int .i64 0) ∧ wr.cell? ⟨w.heap.size, 1, none⟩ = some (.int .i64 0) ∧ wr.cell? ⟨w.heap.size, 2, none⟩ = some (.int .i64 0) ∧ (∀ i, wr.frozen? ⟨w.heap.size, i, none⟩ = false)) (fun pl _ _ => 512 - (intOf pl).toNat)
            case atStart => exact ⟨256, by omega, by omega, by go_num, Lib.hid (polyOf_eq (P := 8) (s := 256) (by decide)).symm, hbw, hlt, hc0, hc1, hc2, hfz⟩
            case round =>
              clear hbw hlt hc0 hc1 hc2 hfz
              obtain ⟨k, hk1, hk2, rfl, hL, hbw, hlt, hc0, hc1, hc2, hfz⟩ := hrel
              by_cases hk : k < 512
              · have hk3 : (k : Int) < 512 := by omega
                have hnf := new_fld wr (.int .i64 2) (.int .i64 8) (.int .i64 k) 36
                cases hb : fieldB 2 (8 : Nat) (k : Int) with
                | true =>
                  have hr := Lib.hid (HL.out.symm.trans (loopB_some (n := 0) (P := 8) (y := k) (by decide) (hL.out.symm.trans (by rw [show 512 - k = (512 - (k + 1)) + 1 by omega]; exact firstFrom_yes hb))))
                  have HB := Lib.hid hb
                  have HNF := Lib.hid hnf
                  clear hb hL hnf
                  go_wp2_with fail
                  refine (isField_spec 2 (8 : Nat) k _).mono ?_
                  rw [HB.out]
                  rintro e w1 ⟨rfl, hb1⟩
                  obtain ⟨d0, d1, d2, d3⟩ := HNF.out
                  obtain ⟨g0, g1, g2⟩ := cell3 hb1 d3 d0 d1 d2
                  obtain ⟨f0, f1, f2, f3, f4, f5⟩ := old_fld hbw hlt hc0 hc1 hc2 hfz hb1
                  clear d0 d1 d2 hc0 hc1 hc2 hfz HNF hb1
                  go_wp2_with fail
                  obtain ⟨e0, e1, e2, hb2⟩ := stored3 w w1 2 8 k f4 f5 f0 f1 f2
                  refine bodyPost_ret (v := .tuple #[.agg #[.int .i64 2, .int .i64 8, .int .i64 k], .int .i64 0]) (by simp [results, Try.results86, go_sem, e0, e1, e2]) rfl ⟨ret_fld hr.out, hb2⟩
                | false =>
                  have hn := Lib.hid ((firstFrom_no hb).symm.trans ((show firstFrom (fun y => fieldB 2 (8 : Nat) y) ((512 - (k + 1)) + 1) k = polyOf 8 by rw [← hL.out]; congr 1; omega)))
                  have HB := Lib.hid hb
                  clear hb hL hnf
                  go_wp2_with fail
                  refine (isField_spec 2 (8 : Nat) k _).mono ?_
                  rw [HB.out]
                  rintro e w1 ⟨rfl, hb1⟩
                  obtain ⟨f0, f1, f2, f3, f4, f5⟩ := old_fld hbw hlt hc0 hc1 hc2 hfz hb1
                  clear hc0 hc1 hc2 hfz hb1 hbw hlt
                  go_wp2_with fail
                  refine ⟨?_, by simp [intOf]; omega⟩
                  (repeat apply Exists.intro)
                  refine ⟨?_, rfl⟩
                  exact ⟨k + 1, by omega, by omega, by go_num, hn, f4, f5, f0, f1, f2, f3⟩
              · obtain rfl : k = 512 := by omega
                have hn := Lib.hid ((loopB_none (size := 256) (n := 0) (P := 8) (by decide) hL.out.symm).symm.trans HL.out)
                clear hk
                go_wp2
                exact ⟨⟨9, by omega, by omega, by go_num, hn, hbw, hlt, hc0, hc1, hc2, hfz⟩, by simp [intOf]⟩
          · have hsb : (size != 256) = true := by rw [bne_iff_ne]; exact hs
            have hn := Lib.hid ((loopB_skip (n := 0) (P := 8) hs).symm.trans hL.out)
            clear hs hL h9
            go_wp2
            exact ⟨⟨9, by omega, by omega, by go_num, hn, hbw, hlt, hc0, hc1, hc2, hfz⟩, by simp [intOf]⟩
  clear hK
  obtain ⟨s1, s2, s3, s4, s5, s6⟩ := HS.out
  by_cases h : 3 ≤ size ∧ size ≤ 1021
  · refine (l01In_yes size 3 1021 _ h).mono ?_
    rintro e w' ⟨rfl, rfl⟩
    go_wp2_with fail
    refine (l02Prime_spec size _ h).mono ?_
    cases hp : primeB size with
    | true =>
      rintro e w' ⟨rfl, rfl⟩
      go_wp2_with fail
      go_loopw [4, 5] (fun g _ wr => ∃ k : Nat, 1 ≤ k ∧ (k : Int) ≤ size ∧ g = .int .i64 k ∧ Hid (firstFrom (fun g => runP size g) (size.toNat - k) k = genOf size) ∧ Below w.heap.size w wr ∧ w.heap.size < wr.heap.size ∧ wr.cell? ⟨w.heap.size, 0, none⟩ = some (.int .i64 0) ∧ wr.cell? ⟨w.heap.size, 1, none⟩ = some (.int .i64 0) ∧ wr.cell? ⟨w.heap.size, 2, none⟩ = some (.int .i64 0) ∧ (∀ i, wr.frozen? ⟨w.heap.size, i, none⟩ = false)) (fun g _ _ => 1022 - (intOf g).toNat)
      case atStart => exact ⟨1, by omega, by omega, by go_num, Lib.hid (by rw [← genOf_one h.1]; congr 1; omega), s1, s2, s3, s4, s5, s6⟩
      case round =>
        clear s1 s2 s3 s4 s5 s6
        obtain ⟨k, hk1, hk2, rfl, hL, hbw, hlt, hc0, hc1, hc2, hfz⟩ := hrel
        have h1 := h.1
        have h2 := h.2
        by_cases hks : (k : Int) < size
        · cases hb : runP size k with
          | true =>
            have hr := Lib.hid (HR.out.symm.trans (rFieldOf_some h hp (hL.out.symm.trans (by rw [show size.toNat - k = (size.toNat - (k + 1)) + 1 by omega]; exact firstFrom_yes hb))))
            have HB := Lib.hid hb
            clear hb hL HK
            have HNF := Lib.hid (new_fld wr (.int .i64 size) (.int .i64 1) (.int .i64 k) 36)
            go_wp2_with fail
            refine (runs_p size k k _ h (by omega)).mono ?_
            rw [HB.out]
            rintro e w1 ⟨rfl, hb1⟩
            obtain ⟨d0, d1, d2, d3⟩ := HNF.out
            obtain ⟨g0, g1, g2⟩ := cell3 hb1 d3 d0 d1 d2
            obtain ⟨f0, f1, f2, f3, f4, f5⟩ := old_fld hbw hlt hc0 hc1 hc2 hfz hb1
            clear d0 d1 d2 hc0 hc1 hc2 hfz HNF hb1
            go_wp2_with fail
            obtain ⟨e0, e1, e2, hb2⟩ := stored3 w w1 size 1 k f4 f5 f0 f1 f2
            refine bodyPost_ret (v := .tuple #[.agg #[.int .i64 size, .int .i64 1, .int .i64 k], .int .i64 0]) (by simp [results, Try.results86, go_sem, e0, e1, e2]) rfl ⟨ret_fld hr.out, hb2⟩
          | false =>
            have hn := Lib.hid ((firstFrom_no (f := fun g => runP size g) hb).symm.trans ((show firstFrom (fun g => runP size g) ((size.toNat - (k + 1)) + 1) k = genOf size by rw [← hL.out]; congr 1; omega)))
            have HB := Lib.hid hb
            clear hb hL HK
            have HNF := Lib.hid (new_fld wr (.int .i64 size) (.int .i64 1) (.int .i64 k) 36)
            go_wp2_with fail
            refine (runs_p size k k _ h (by omega)).mono ?_
            rw [HB.out]
            rintro e w1 ⟨rfl, hb1⟩
            obtain ⟨d0, d1, d2, d3⟩ := HNF.out
            obtain ⟨g0, g1, g2⟩ := cell3 hb1 d3 d0 d1 d2
            obtain ⟨f0, f1, f2, f3, f4, f5⟩ := old_fld hbw hlt hc0 hc1 hc2 hfz hb1
            clear d0 d1 d2 hc0 hc1 hc2 hfz HNF hb1
            clear hbw hlt
            go_wp2_with fail
            exact ⟨⟨k + 1, by omega, by omega, by go_num, hn, f4, f5, f0, f1, f2, f3⟩, by simp [intOf]; omega⟩
        · have hn := Lib.hid ((rFieldOf_none (by rw [← hL.out, show size.toNat - k = 0 by omega]; rfl)).symm.trans HR.out)
          have hks2 : size ≤ (k : Int) := by omega
          clear hL hks
          go_wp2_with fail
          exact HK hn hbw hlt hc0 hc1 hc2 hfz
    | false =>
      rintro e w' ⟨rfl, rfl⟩
      go_wp2_with fail
      exact HK (Lib.hid ((rFieldOf_nop hp).symm.trans HR.out)) s1 s2 s3 s4 s5 s6
  · refine (l01In_no size 3 1021 _ h).mono ?_
    rintro e w' ⟨rfl, rfl⟩
    go_wp2_with fail
    exact HK (Lib.hid ((rFieldOf_range h).symm.trans HR.out)) s1 s2 s3 s4 s5 s6
end Go.Proofs.Ytnajjofaijpciaa
