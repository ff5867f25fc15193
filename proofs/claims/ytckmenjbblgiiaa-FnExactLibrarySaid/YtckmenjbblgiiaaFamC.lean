/-
  Contracts: the size, the copy and the comparison of families in the laws.
  Conditions: equal families for the comparison; lists of at most 2^20 numbers for the copy.
-/
import Derived.Test.YtckmenjbblgiiaaFamB
import Derived.Test.YtckmenjbblgiiaaEqField
import Derived.Test.YtckmenjbblgiiaaFieldT
import Derived.Test.YtckmenjbblgiiaaLib
set_option linter.unusedVariables false
namespace Go.Proofs.Ytckmenjbblgiiaa
open Go.RowKit Go.G8
/-- The first n cells of a block. -/
def Cells (b : Nat) (f : Nat → Value) (n : Nat) (w : World) : Prop := ∀ i, i < n → w.cell? ⟨b, i, none⟩ = some (f i)
def upd (f : Nat → Value) (j : Nat) (v : Value) : Nat → Value := fun i => if i = j then v else f i
theorem Cells.set {b n j : Nat} {f : Nat → Value} {w : World} (h : Cells b f n w) (hj : j < n) (v : Value) : Cells b (upd f j v) n (w.setCell ⟨b, j, none⟩ v) := by
  intro i hi
  unfold upd
  by_cases e : i = j
  · subst e
    rw [if_pos rfl]
    exact World.cell?_setCell_same _ _ _ (h i hi)
  · rw [if_neg e, World.cell?_setCell_other _ _ _ _ (by intro h; injection h with _ h; exact e h.symm)]
    exact h i hi
theorem Cells.to {b n : Nat} {f : Nat → Value} {w w' : World} (h : Cells b f n w) (hb : Below w.heap.size w w') (hlt : b < w.heap.size) : Cells b f n w' := fun i hi => ((bcell hb).1 b i hlt).trans (h i hi)
theorem Cells.other {b c j n : Nat} {f : Nat → Value} {w : World} (h : Cells b f n w) (hne : c ≠ b) (v : Value) : Cells b f n (w.setCell ⟨c, j, none⟩ v) := by
  intro i hi
  rw [World.cell?_setCell_other _ _ _ _ (by intro h; injection h with h; exact hne h)]
  exact h i hi
theorem Cells.new (w : World) (A : Array Value) (T : TypeId) (d : Value) : Cells w.heap.size (fun i => A[i]?.getD d) A.size (w.alloc (.cells A T)) := by
  intro i hi
  rw [cell_of_row _ _ _ _ _ (0, 0) (heap_alloc_new w _)]
  simp [hi]
theorem szI_any (a : Option Addr) (n k : Nat) (L : Int) (w : World) (hn : n ≤ 9223372036854775807) (hL : 0 ≤ L ∧ L ≤ 1048576) :
    Calls Try.prog 67 #[.slice a n k, .int .i64 L] w (RetS (.int .i64 (if (n : Int) ≤ L then L - n else -1)) w) := by
  by_cases h : (n : Int) ≤ L
  · rw [if_pos h]
    have d : decide (L - (n : Int) < 0) = false := by simp; omega
    go_enter Try.func67, Try.ntmps67
    go_wp2
    go_ret
    exact ⟨rfl, rfl⟩
  · rw [if_neg h]
    have d : decide (L - (n : Int) < 0) = true := by simp; omega
    go_enter Try.func67, Try.ntmps67
    go_wp2
    go_ret
    exact ⟨rfl, rfl⟩
theorem szFamily_any (s : ByteArray) (K p q y co : Int) (a1 a2 : Option Addr) (n1 k1 n2 k2 : Nat) (w : World) (hs : s.size ≤ 9223372036854775807) (hn1 : n1 ≤ 9223372036854775807) (hn2 : n2 ≤ 9223372036854775807) :
    Calls Try.prog 35 #[.agg #[.string s, .int .i64 K, .int .i64 p, .int .i64 q, .int .i64 y, .slice a1 n1 k1, .int .i64 co, .slice a2 n2 k2], .int .i64 1048576] w (Ret (.int .i64 (if s.size + n1 + n2 ≤ 1048576 then 1048576 - ((s.size + n1 + n2 : Nat) : Int) else -1)) w) := by
  have hF := fam_new w s K p q y (.slice a1 n1 k1) co (.slice a2 n2 k2) 52
  have hal := Below.alloc (Below.refl w.heap.size w) (Nat.le_refl _) (.cells #[.string s, .int .i64 K, .int .i64 p, .int .i64 q, .int .i64 y, .slice a1 n1 k1, .int .i64 co, .slice a2 n2 k2] 52)
  obtain ⟨g0, g1, g2, g3, g4, g5, g6, g7⟩ := hF
  by_cases hs1 : s.size ≤ 1048576
  · have hd0 : decide ((1048576 : Int) - s.size < 0) = false := by simp; omega
    have HZ := Lib.hid (fun w => szI_any a1 n1 k1 (1048576 - (s.size : Int)) w hn1 (by omega))
    by_cases hs2 : s.size + n1 ≤ 1048576
    · rw [if_pos (by omega)] at HZ
      have hd1 : decide ((1048576 : Int) - s.size - n1 < 0) = false := by simp; omega
      have HZ2 := Lib.hid (fun w => szI_any a2 n2 k2 (1048576 - (s.size : Int) - n1) w hn2 (by omega))
      by_cases hs3 : s.size + n1 + n2 ≤ 1048576
      · rw [if_pos (by omega)] at HZ2
        have hd2 : decide ((1048576 : Int) - s.size - n1 - n2 < 0) = false := by simp; omega
        rw [if_pos hs3]
        go_enter Try.func35, Try.ntmps35
        go_wp2_with fail
        refine (HZ.out _).mono ?_
        rintro e w' ⟨rfl, rfl⟩
        go_wp2_with fail
        refine (HZ2.out _).mono ?_
        rintro e w' ⟨rfl, rfl⟩
        go_wp2_with fail
        go_ret
        exact ⟨congrArg (fun z => Ending.returned (Value.int .i64 z)) (show (1048576 : Int) - s.size - n1 - n2 = 1048576 - ((s.size + n1 + n2 : Nat) : Int) by omega), hal⟩
      · rw [if_neg (by omega)] at HZ2
        rw [if_neg hs3]
        go_enter Try.func35, Try.ntmps35
        go_wp2_with fail
        refine (HZ.out _).mono ?_
        rintro e w' ⟨rfl, rfl⟩
        go_wp2_with fail
        refine (HZ2.out _).mono ?_
        rintro e w' ⟨rfl, rfl⟩
        go_wp2_with fail
        go_ret
        exact ⟨rfl, hal⟩
    · rw [if_neg (by omega)] at HZ
      rw [if_neg (by omega)]
      go_enter Try.func35, Try.ntmps35
      go_wp2_with fail
      refine (HZ.out _).mono ?_
      rintro e w' ⟨rfl, rfl⟩
      go_wp2_with fail
      go_ret
      exact ⟨rfl, hal⟩
  · have hd0 : decide ((1048576 : Int) - s.size < 0) = true := by simp; omega
    rw [if_neg (by omega)]
    go_enter Try.func35, Try.ntmps35
    go_wp2_with fail
    go_ret
    exact ⟨rfl, hal⟩
theorem fam_two (w : World) (s : ByteArray) (K p q y co : Int) (u v u' v' : Value) (T E : TypeId) :
    Below w.heap.size w ((w.alloc (.cells #[.string s, .int .i64 K, .int .i64 p, .int .i64 q, .int .i64 y, u, .int .i64 co, v] T)).alloc (.cells #[.string s, .int .i64 K, .int .i64 p, .int .i64 q, .int .i64 y, u', .int .i64 co, v'] E)) ∧ w.heap.size + 1 < ((w.alloc (.cells #[.string s, .int .i64 K, .int .i64 p, .int .i64 q, .int .i64 y, u, .int .i64 co, v] T)).alloc (.cells #[.string s, .int .i64 K, .int .i64 p, .int .i64 q, .int .i64 y, u', .int .i64 co, v'] E)).heap.size ∧
    Fam8 w.heap.size s K p q y u co v ((w.alloc (.cells #[.string s, .int .i64 K, .int .i64 p, .int .i64 q, .int .i64 y, u, .int .i64 co, v] T)).alloc (.cells #[.string s, .int .i64 K, .int .i64 p, .int .i64 q, .int .i64 y, u', .int .i64 co, v'] E)) ∧
    Fam8 (w.heap.size + 1) s K p q y u' co v' ((w.alloc (.cells #[.string s, .int .i64 K, .int .i64 p, .int .i64 q, .int .i64 y, u, .int .i64 co, v] T)).alloc (.cells #[.string s, .int .i64 K, .int .i64 p, .int .i64 q, .int .i64 y, u', .int .i64 co, v'] E)) := by
  have h1 := fam_new w s K p q y u co v T
  have h2 := fam_new (w.alloc (.cells #[.string s, .int .i64 K, .int .i64 p, .int .i64 q, .int .i64 y, u, .int .i64 co, v] T)) s K p q y u' co v' E
  have hs : (w.alloc (.cells #[.string s, .int .i64 K, .int .i64 p, .int .i64 q, .int .i64 y, u, .int .i64 co, v] T)).heap.size = w.heap.size + 1 := by simp
  rw [hs] at h2
  exact ⟨Below.alloc (Below.alloc (Below.refl w.heap.size w) (Nat.le_refl _) _) (by simp) _, by simp, h1.to (by omega) (Below.alloc (Below.refl _ _) (Nat.le_refl _) _), h2⟩
set_option maxHeartbeats 1000000 in
theorem eqFamily_same (s : ByteArray) (K p q y co : Int) (a1 a2 b1 b2 : Option Addr) (n1 k1 n2 k2 m1 d1 m2 d2 : Nat) (xs ys : List Int) (w : World) (h1 : Rd .i64 w a1 n1 xs) (hn1 : n1 ≤ 1000000000) (h2 : Rd .i64 w a2 n2 ys) (hn2 : n2 ≤ 1000000000) (h3 : Rd .i64 w b1 m1 xs) (h4 : Rd .i64 w b2 m2 ys) :
    Calls Try.prog 39 #[.agg #[.string s, .int .i64 K, .int .i64 p, .int .i64 q, .int .i64 y, .slice a1 n1 k1, .int .i64 co, .slice a2 n2 k2], .agg #[.string s, .int .i64 K, .int .i64 p, .int .i64 q, .int .i64 y, .slice b1 m1 d1, .int .i64 co, .slice b2 m2 d2]] w (Ret (.bool true) w) := by
  obtain ⟨hw0, hlt0, hA, hB⟩ := fam_two w s K p q y co (.slice a1 n1 k1) (.slice a2 n2 k2) (.slice b1 m1 d1) (.slice b2 m2 d2) 57 57
  obtain ⟨g0, g1, g2, g3, g4, g5, g6, g7⟩ := id hA
  obtain ⟨u0, u1, u2, u3, u4, u5, u6, u7⟩ := id hB
  have x1 := Lib.hid h1
  have x2 := Lib.hid h2
  have x3 := Lib.hid h3
  have x4 := Lib.hid h4
  clear h1 h2 h3 h4
  go_enter Try.func39, Try.ntmps39
  go_wp2_with fail
  generalize ((w.alloc (.cells #[.string s, .int .i64 K, .int .i64 p, .int .i64 q, .int .i64 y, .slice a1 n1 k1, .int .i64 co, .slice a2 n2 k2] 57)).alloc (.cells #[.string s, .int .i64 K, .int .i64 p, .int .i64 q, .int .i64 y, .slice b1 m1 d1, .int .i64 co, .slice b2 m2 d2] 57)) = W0 at *
  refine (eqField_same p q y _).mono ?_
  rintro e w1 ⟨rfl, hb1⟩
  clear g0 g1 g2 g3 g4 g5 g6 g7 u0 u1 u2 u3 u4 u5 u6 u7
  obtain ⟨g0, g1, g2, g3, g4, g5, g6, g7⟩ := hA.to (by omega) hb1
  obtain ⟨u0, u1, u2, u3, u4, u5, u6, u7⟩ := hB.to hlt0 hb1
  have hB1 := bt hw0 hb1
  go_wp2_with fail
  refine (eqInt64S_same a1 b1 n1 m1 k1 d1 xs _ (x1.out.to hB1) (x3.out.to hB1) hn1).mono ?_
  rintro e w2 ⟨rfl, hq⟩
  replace hq := bt hb1 (below_q hq)
  have hB2 := bt hw0 hq
  clear g0 g1 g2 g3 g4 g5 g6 g7 u0 u1 u2 u3 u4 u5 u6 u7
  obtain ⟨g0, g1, g2, g3, g4, g5, g6, g7⟩ := hA.to (by omega) hq
  obtain ⟨u0, u1, u2, u3, u4, u5, u6, u7⟩ := hB.to hlt0 hq
  go_wp2_with fail
  refine (eqInt64S_same a2 b2 n2 m2 k2 d2 ys _ (x2.out.to hB2) (x4.out.to hB2) hn2).mono ?_
  rintro e w3 ⟨rfl, hq3⟩
  have hB3 := bt hB2 (below_q hq3)
  go_wp2_with fail
  go_ret
  exact ⟨rfl, hB3⟩
theorem gs (w : World) (b i : Nat) (v : Value) : w.grownBy (w.setCell ⟨b, i, none⟩ v) (some b) := ⟨rfl, rfl, rfl, by simp, fun q hq hne => Below.heap_setCell _ _ _ q (fun e => hne (by rw [e]))⟩
theorem three_blocks (w : World) (A B C : Array Value) (T E F : TypeId) (d : Value) (hA : A.size = 8) (hB : B.size = 8) (hC : C.size = 8) :
    Below w.heap.size w (((w.alloc (.cells A T)).alloc (.cells B E)).alloc (.cells C F)) ∧ w.heap.size + 1 + 1 < (((w.alloc (.cells A T)).alloc (.cells B E)).alloc (.cells C F)).heap.size ∧
    Cells w.heap.size (fun i => A[i]?.getD d) 8 (((w.alloc (.cells A T)).alloc (.cells B E)).alloc (.cells C F)) ∧ Cells (w.heap.size + 1) (fun i => B[i]?.getD d) 8 (((w.alloc (.cells A T)).alloc (.cells B E)).alloc (.cells C F)) ∧ Cells (w.heap.size + 1 + 1) (fun i => C[i]?.getD d) 8 (((w.alloc (.cells A T)).alloc (.cells B E)).alloc (.cells C F)) ∧
    (∀ i, (((w.alloc (.cells A T)).alloc (.cells B E)).alloc (.cells C F)).frozen? ⟨w.heap.size + 1, i, none⟩ = false) ∧ (∀ i, (((w.alloc (.cells A T)).alloc (.cells B E)).alloc (.cells C F)).frozen? ⟨w.heap.size + 1 + 1, i, none⟩ = false) := by
  have h1 := Cells.new w A T d
  have b1 := Below.alloc (Below.refl w.heap.size w) (Nat.le_refl _) (.cells A T)
  have s1 : (w.alloc (.cells A T)).heap.size = w.heap.size + 1 := by simp
  generalize (w.alloc (.cells A T)) = W1 at *
  have h2 := Cells.new W1 B E d
  have f2 : ∀ i, (W1.alloc (.cells B E)).frozen? ⟨W1.heap.size, i, none⟩ = false := fun i => frozen_of_row _ _ _ _ _ (heap_alloc_new W1 _)
  have b2 := Below.alloc (Below.refl W1.heap.size W1) (Nat.le_refl _) (.cells B E)
  have s2 : (W1.alloc (.cells B E)).heap.size = w.heap.size + 1 + 1 := by simp [s1]
  generalize (W1.alloc (.cells B E)) = W2 at *
  have h3 := Cells.new W2 C F d
  have f3 : ∀ i, (W2.alloc (.cells C F)).frozen? ⟨W2.heap.size, i, none⟩ = false := fun i => frozen_of_row _ _ _ _ _ (heap_alloc_new W2 _)
  have b3 := Below.alloc (Below.refl W2.heap.size W2) (Nat.le_refl _) (.cells C F)
  have s3 : (W2.alloc (.cells C F)).heap.size = w.heap.size + 1 + 1 + 1 := by simp [s2]
  rw [s1] at h2 f2
  rw [s2] at h3 f3
  rw [hA] at h1
  rw [hB] at h2
  rw [hC] at h3
  exact ⟨bt b1 (bt b2 b3), by omega, h1.to (bt b2 b3) (by omega), h2.to b3 (by omega), h3, fun i => ((bcell b3).2 _ i (by omega)).trans (f2 i), f3⟩
def RetFam (s : ByteArray) (K p q y co : Int) (xs ys : List Int) (w : World) (e : Ending) (w' : World) : Prop :=
  ∃ (a1 : Option Addr) (n1 k1 : Nat) (a2 : Option Addr) (n2 k2 : Nat), e = .returned (.agg #[.string s, .int .i64 K, .int .i64 p, .int .i64 q, .int .i64 y, .slice a1 n1 k1, .int .i64 co, .slice a2 n2 k2]) ∧ Ow .i64 2 w.heap.size w' a1 n1 k1 xs ∧ Ow .i64 2 w.heap.size w' a2 n2 k2 ys ∧ Below w.heap.size w w'
set_option maxHeartbeats 2000000 in
set_option maxRecDepth 20000 in
theorem toFamily_any (s : ByteArray) (K p q y co : Int) (a1 a2 : Option Addr) (n1 k1 n2 k2 : Nat) (xs ys : List Int) (w : World) (h1 : Rd .i64 w a1 n1 xs) (hn1 : n1 ≤ 1048576) (h2 : Rd .i64 w a2 n2 ys) (hn2 : n2 ≤ 1048576) :
    Calls Try.prog 37 #[.agg #[.string s, .int .i64 K, .int .i64 p, .int .i64 q, .int .i64 y, .slice a1 n1 k1, .int .i64 co, .slice a2 n2 k2]] w (RetFam s K p q y co xs ys w) := by
  obtain ⟨hb0, hlt0, hG, hR, hO, fR, fO⟩ := three_blocks w #[.string s, .int .i64 K, .int .i64 p, .int .i64 q, .int .i64 y, .slice a1 n1 k1, .int .i64 co, .slice a2 n2 k2] #[.string ⟨#[]⟩, .int .i64 0, .int .i64 0, .int .i64 0, .int .i64 0, .slice none 0 0, .int .i64 0, .slice none 0 0] #[.string s, .int .i64 K, .int .i64 0, .int .i64 0, .int .i64 0, .slice none 0 0, .int .i64 0, .slice none 0 0] 52 57 57 (.int .i64 0) rfl rfl rfl
  go_enter Try.func37, Try.ntmps37
  go_wp2_with fail
  generalize (((w.alloc (.cells #[.string s, .int .i64 K, .int .i64 p, .int .i64 q, .int .i64 y, .slice a1 n1 k1, .int .i64 co, .slice a2 n2 k2] 52)).alloc (.cells #[.string ⟨#[]⟩, .int .i64 0, .int .i64 0, .int .i64 0, .int .i64 0, .slice none 0 0, .int .i64 0, .slice none 0 0] 57)).alloc (.cells #[.string s, .int .i64 K, .int .i64 0, .int .i64 0, .int .i64 0, .slice none 0 0, .int .i64 0, .slice none 0 0] 57)) = W0 at *
  refine (toField_any p q y _).mono ?_
  rintro e w1 ⟨rfl, hb1⟩
  have hB1 := bt hb0 hb1
  have hG1 := hG.to hb1 (by omega)
  have hR1 := hR.to hb1 (by omega)
  have hO1 := hO.to hb1 hlt0
  have fR1 : ∀ i, w1.frozen? ⟨w.heap.size + 1, i, none⟩ = false := fun i => ((bcell hb1).2 _ i (by omega)).trans (fR i)
  have fO1 : ∀ i, w1.frozen? ⟨w.heap.size + 1 + 1, i, none⟩ = false := fun i => ((bcell hb1).2 _ i hlt0).trans (fO i)
  have hs1 := hb1.size
  clear hG hR hO fR fO hb1 hb0
  have g5 : w1.cell? ⟨w.heap.size, 5, none⟩ = some (.slice a1 n1 k1) := hG1 5 (by omega)
  have o2 : w1.cell? ⟨w.heap.size + 1 + 1, 2, none⟩ = some (.int .i64 0) := hO1 2 (by omega)
  have o3 : w1.cell? ⟨w.heap.size + 1 + 1, 3, none⟩ = some (.int .i64 0) := hO1 3 (by omega)
  have o4 : w1.cell? ⟨w.heap.size + 1 + 1, 4, none⟩ = some (.int .i64 0) := hO1 4 (by omega)
  have z2 := fO1 2
  go_wp2_with fail
  have hO2 := ((hO1.set (j := 2) (by omega) (.int .i64 p)).set (j := 3) (by omega) (.int .i64 q)).set (j := 4) (by omega) (.int .i64 y)
  have hg2 := keeps_trans (keeps_trans (gs w1 (w.heap.size + 1 + 1) 2 (.int .i64 p)) (gs _ (w.heap.size + 1 + 1) 3 (.int .i64 q))) (gs _ (w.heap.size + 1 + 1) 4 (.int .i64 y))
  have hG2 := ((hG1.other (c := w.heap.size + 1 + 1) (j := 2) (by omega) (.int .i64 p)).other (c := w.heap.size + 1 + 1) (j := 3) (by omega) (.int .i64 q)).other (c := w.heap.size + 1 + 1) (j := 4) (by omega) (.int .i64 y)
  have hR2 := ((hR1.other (c := w.heap.size + 1 + 1) (j := 2) (by omega) (.int .i64 p)).other (c := w.heap.size + 1 + 1) (j := 3) (by omega) (.int .i64 q)).other (c := w.heap.size + 1 + 1) (j := 4) (by omega) (.int .i64 y)
  have fO2 : ∀ i, (((w1.setCell ⟨w.heap.size + 1 + 1, 2, none⟩ (.int .i64 p)).setCell ⟨w.heap.size + 1 + 1, 3, none⟩ (.int .i64 q)).setCell ⟨w.heap.size + 1 + 1, 4, none⟩ (.int .i64 y)).frozen? ⟨w.heap.size + 1 + 1, i, none⟩ = false := fun i => by have := fO1 i; simpa using this
  have fR2 : ∀ i, (((w1.setCell ⟨w.heap.size + 1 + 1, 2, none⟩ (.int .i64 p)).setCell ⟨w.heap.size + 1 + 1, 3, none⟩ (.int .i64 q)).setCell ⟨w.heap.size + 1 + 1, 4, none⟩ (.int .i64 y)).frozen? ⟨w.heap.size + 1, i, none⟩ = false := fun i => by have := fR1 i; simpa using this
  have hB2 := hB1.grown hg2 (by omega) (fun g e => by injection e; omega)
  have hs2 : W0.heap.size ≤ (((w1.setCell ⟨w.heap.size + 1 + 1, 2, none⟩ (.int .i64 p)).setCell ⟨w.heap.size + 1 + 1, 3, none⟩ (.int .i64 q)).setCell ⟨w.heap.size + 1 + 1, 4, none⟩ (.int .i64 y)).heap.size := by simpa using hs1
  generalize (((w1.setCell ⟨w.heap.size + 1 + 1, 2, none⟩ (.int .i64 p)).setCell ⟨w.heap.size + 1 + 1, 3, none⟩ (.int .i64 q)).setCell ⟨w.heap.size + 1 + 1, 4, none⟩ (.int .i64 y)) = W2 at *
  clear hO1 hG1 hR1 fO1 fR1 hg2 hB1 g5 o2 o3 o4 z2
  refine (toInt64S_any a1 n1 k1 xs _ (h1.to hB2) hn1).mono ?_
  rintro e w3 ⟨e1, m1, c1, rfl, ho1, hb3⟩
  have hB3 := bt hB2 hb3
  have hG3 := hG2.to hb3 (by omega)
  have hR3 := hR2.to hb3 (by omega)
  have hO3 := hO2.to hb3 (by omega)
  have fO3 : ∀ i, w3.frozen? ⟨w.heap.size + 1 + 1, i, none⟩ = false := fun i => ((bcell hb3).2 _ i (by omega)).trans (fO2 i)
  have fR3 : ∀ i, w3.frozen? ⟨w.heap.size + 1, i, none⟩ = false := fun i => ((bcell hb3).2 _ i (by omega)).trans (fR2 i)
  have hs3 := hb3.size
  clear hO2 hG2 hR2 fO2 fR2 hB2 hb3
  have g6 : w3.cell? ⟨w.heap.size, 6, none⟩ = some (.int .i64 co) := hG3 6 (by omega)
  have g7 : w3.cell? ⟨w.heap.size, 7, none⟩ = some (.slice a2 n2 k2) := hG3 7 (by omega)
  have o5 : w3.cell? ⟨w.heap.size + 1 + 1, 5, none⟩ = some (.slice none 0 0) := hO3 5 (by omega)
  have o6 : w3.cell? ⟨w.heap.size + 1 + 1, 6, none⟩ = some (.int .i64 0) := hO3 6 (by omega)
  have z5 := fO3 5
  have z6 := fO3 6
  go_wp2_with fail
  have hO4 := (hO3.set (j := 5) (by omega) (.slice e1 m1 c1)).set (j := 6) (by omega) (.int .i64 co)
  have hg4 := keeps_trans (gs w3 (w.heap.size + 1 + 1) 5 (.slice e1 m1 c1)) (gs _ (w.heap.size + 1 + 1) 6 (.int .i64 co))
  have hR4 := (hR3.other (c := w.heap.size + 1 + 1) (j := 5) (by omega) (.slice e1 m1 c1)).other (c := w.heap.size + 1 + 1) (j := 6) (by omega) (.int .i64 co)
  have fO4 : ∀ i, ((w3.setCell ⟨w.heap.size + 1 + 1, 5, none⟩ (.slice e1 m1 c1)).setCell ⟨w.heap.size + 1 + 1, 6, none⟩ (.int .i64 co)).frozen? ⟨w.heap.size + 1 + 1, i, none⟩ = false := fun i => by have := fO3 i; simpa using this
  have fR4 : ∀ i, ((w3.setCell ⟨w.heap.size + 1 + 1, 5, none⟩ (.slice e1 m1 c1)).setCell ⟨w.heap.size + 1 + 1, 6, none⟩ (.int .i64 co)).frozen? ⟨w.heap.size + 1, i, none⟩ = false := fun i => by have := fR3 i; simpa using this
  have hB4 := hB3.grown hg4 (by omega) (fun g e => by injection e; omega)
  have ho4 := ho1.kept hg4 (fun g e => by injection e; omega)
  have hs4 : W2.heap.size ≤ ((w3.setCell ⟨w.heap.size + 1 + 1, 5, none⟩ (.slice e1 m1 c1)).setCell ⟨w.heap.size + 1 + 1, 6, none⟩ (.int .i64 co)).heap.size := by simpa using hs3
  generalize ((w3.setCell ⟨w.heap.size + 1 + 1, 5, none⟩ (.slice e1 m1 c1)).setCell ⟨w.heap.size + 1 + 1, 6, none⟩ (.int .i64 co)) = W4 at *
  clear hO3 hG3 hR3 fO3 fR3 hg4 hB3 ho1 g6 g7 o5 o6 z5 z6
  refine (toInt64S_any a2 n2 k2 ys _ (h2.to hB4) hn2).mono ?_
  rintro e w5 ⟨e2, m2, c2, rfl, ho2, hb5⟩
  have hB5 := bt hB4 hb5
  have hR5 := hR4.to hb5 (by omega)
  have hO5 := hO4.to hb5 (by omega)
  have zO7 : w5.frozen? ⟨w.heap.size + 1 + 1, 7, none⟩ = false := ((bcell hb5).2 _ 7 (by omega)).trans (fO4 7)
  have zR0 : w5.frozen? ⟨w.heap.size + 1, 0, none⟩ = false := ((bcell hb5).2 _ 0 (by omega)).trans (fR4 0)
  have zR1 : w5.frozen? ⟨w.heap.size + 1, 1, none⟩ = false := ((bcell hb5).2 _ 1 (by omega)).trans (fR4 1)
  have zR2 : w5.frozen? ⟨w.heap.size + 1, 2, none⟩ = false := ((bcell hb5).2 _ 2 (by omega)).trans (fR4 2)
  have zR3 : w5.frozen? ⟨w.heap.size + 1, 3, none⟩ = false := ((bcell hb5).2 _ 3 (by omega)).trans (fR4 3)
  have zR4 : w5.frozen? ⟨w.heap.size + 1, 4, none⟩ = false := ((bcell hb5).2 _ 4 (by omega)).trans (fR4 4)
  have zR5 : w5.frozen? ⟨w.heap.size + 1, 5, none⟩ = false := ((bcell hb5).2 _ 5 (by omega)).trans (fR4 5)
  have zR6 : w5.frozen? ⟨w.heap.size + 1, 6, none⟩ = false := ((bcell hb5).2 _ 6 (by omega)).trans (fR4 6)
  have zR7 : w5.frozen? ⟨w.heap.size + 1, 7, none⟩ = false := ((bcell hb5).2 _ 7 (by omega)).trans (fR4 7)
  have ho5 := ho4.keep hb5
  have hs5 := hb5.size
  clear hO4 hR4 fO4 fR4 hB4 hb5 ho4
  have o0 : w5.cell? ⟨w.heap.size + 1 + 1, 0, none⟩ = some (.string s) := hO5 0 (by omega)
  have o1 : w5.cell? ⟨w.heap.size + 1 + 1, 1, none⟩ = some (.int .i64 K) := hO5 1 (by omega)
  have o2 : w5.cell? ⟨w.heap.size + 1 + 1, 2, none⟩ = some (.int .i64 p) := hO5 2 (by omega)
  have o3 : w5.cell? ⟨w.heap.size + 1 + 1, 3, none⟩ = some (.int .i64 q) := hO5 3 (by omega)
  have o4 : w5.cell? ⟨w.heap.size + 1 + 1, 4, none⟩ = some (.int .i64 y) := hO5 4 (by omega)
  have o5 : w5.cell? ⟨w.heap.size + 1 + 1, 5, none⟩ = some (.slice e1 m1 c1) := hO5 5 (by omega)
  have o6 : w5.cell? ⟨w.heap.size + 1 + 1, 6, none⟩ = some (.int .i64 co) := hO5 6 (by omega)
  have o7 : w5.cell? ⟨w.heap.size + 1 + 1, 7, none⟩ = some (.slice none 0 0) := hO5 7 (by omega)
  have r0 : w5.cell? ⟨w.heap.size + 1, 0, none⟩ = some (.string ⟨#[]⟩) := hR5 0 (by omega)
  have r1 : w5.cell? ⟨w.heap.size + 1, 1, none⟩ = some (.int .i64 0) := hR5 1 (by omega)
  have r2 : w5.cell? ⟨w.heap.size + 1, 2, none⟩ = some (.int .i64 0) := hR5 2 (by omega)
  have r3 : w5.cell? ⟨w.heap.size + 1, 3, none⟩ = some (.int .i64 0) := hR5 3 (by omega)
  have r4 : w5.cell? ⟨w.heap.size + 1, 4, none⟩ = some (.int .i64 0) := hR5 4 (by omega)
  have r5 : w5.cell? ⟨w.heap.size + 1, 5, none⟩ = some (.slice none 0 0) := hR5 5 (by omega)
  have r6 : w5.cell? ⟨w.heap.size + 1, 6, none⟩ = some (.int .i64 0) := hR5 6 (by omega)
  have r7 : w5.cell? ⟨w.heap.size + 1, 7, none⟩ = some (.slice none 0 0) := hR5 7 (by omega)
  go_wp2_with fail
  have hRf := (((((((((hR5.other (c := w.heap.size + 1 + 1) (j := 7) (by omega) (.slice e2 m2 c2)).set (j := 0) (by omega) (.string s)).set (j := 1) (by omega) (.int .i64 K)).set (j := 2) (by omega) (.int .i64 p)).set (j := 3) (by omega) (.int .i64 q)).set (j := 4) (by omega) (.int .i64 y)).set (j := 5) (by omega) (.slice e1 m1 c1)).set (j := 6) (by omega) (.int .i64 co)).set (j := 7) (by omega) (.slice e2 m2 c2))
  have hg6 := gs w5 (w.heap.size + 1 + 1) 7 (.slice e2 m2 c2)
  have hg7 := (keeps_trans (keeps_trans (keeps_trans (keeps_trans (keeps_trans (keeps_trans (keeps_trans (gs (w5.setCell ⟨w.heap.size + 1 + 1, 7, none⟩ (.slice e2 m2 c2)) (w.heap.size + 1) 0 (.string s)) (gs _ (w.heap.size + 1) 1 (.int .i64 K))) (gs _ (w.heap.size + 1) 2 (.int .i64 p))) (gs _ (w.heap.size + 1) 3 (.int .i64 q))) (gs _ (w.heap.size + 1) 4 (.int .i64 y))) (gs _ (w.heap.size + 1) 5 (.slice e1 m1 c1))) (gs _ (w.heap.size + 1) 6 (.int .i64 co))) (gs _ (w.heap.size + 1) 7 (.slice e2 m2 c2)))
  have v0 := hRf 0 (by omega)
  have v1 := hRf 1 (by omega)
  have v2 := hRf 2 (by omega)
  have v3 := hRf 3 (by omega)
  have v4 := hRf 4 (by omega)
  have v5 := hRf 5 (by omega)
  have v6 := hRf 6 (by omega)
  have v7 := hRf 7 (by omega)
  simp only [upd] at v0 v1 v2 v3 v4 v5 v6 v7
  have hs6 : w5.heap.size ≤ (w5.setCell ⟨w.heap.size + 1 + 1, 7, none⟩ (.slice e2 m2 c2)).heap.size := by simp
  have hf1 := (((ho5.kept hg6 (fun g e => by injection e; omega)).kept hg7 (fun g e => by injection e; omega)).more (show w.heap.size ≤ W2.heap.size by omega))
  have hf2 := (((ho2.kept hg6 (fun g e => by injection e; omega)).kept hg7 (fun g e => by injection e; omega)).more (show w.heap.size ≤ W4.heap.size by omega))
  have hf3 := (hB5.grown hg6 (by omega) (fun g e => by injection e; omega)).grown hg7 (by omega) (fun g e => by injection e; omega)
  clear hRf hg6 hg7 hs6
  generalize (((((((((w5.setCell ⟨w.heap.size + 1 + 1, 7, none⟩ (.slice e2 m2 c2)).setCell ⟨w.heap.size + 1, 0, none⟩ (.string s)).setCell ⟨w.heap.size + 1, 1, none⟩ (.int .i64 K)).setCell ⟨w.heap.size + 1, 2, none⟩ (.int .i64 p)).setCell ⟨w.heap.size + 1, 3, none⟩ (.int .i64 q)).setCell ⟨w.heap.size + 1, 4, none⟩ (.int .i64 y)).setCell ⟨w.heap.size + 1, 5, none⟩ (.slice e1 m1 c1)).setCell ⟨w.heap.size + 1, 6, none⟩ (.int .i64 co)).setCell ⟨w.heap.size + 1, 7, none⟩ (.slice e2 m2 c2)) = W6 at *
  exact bodyPost_ret (v := .agg #[.string s, .int .i64 K, .int .i64 p, .int .i64 q, .int .i64 y, .slice e1 m1 c1, .int .i64 co, .slice e2 m2 c2]) (by simp [results, Try.results37, go_sem, v0, v1, v2, v3, v4, v5, v6, v7]) rfl ⟨e1, m1, c1, e2, m2, c2, rfl, hf1, hf2, hf3⟩
end Go.Proofs.Ytckmenjbblgiiaa
