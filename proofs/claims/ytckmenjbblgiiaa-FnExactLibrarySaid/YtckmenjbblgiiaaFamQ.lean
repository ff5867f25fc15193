/-
  Contracts: the marks of a family in the laws.
  Conditions: lists of at most 10^9 numbers.
-/
import Derived.Test.YtckmenjbblgiiaaFamP
set_option linter.unusedVariables false
namespace Go.Proofs.Ytckmenjbblgiiaa
open Go.RowKit Go.G8
set_option maxHeartbeats 1000000 in
theorem markFamily_any (B : Nat) (s : ByteArray) (K p q y co : Int) (a b : Option Addr) (n c m d : Nat) (xs ys : List Int) (k : Int) (w : World) (h1 : Ow .i64 2 B w a n c xs) (h2 : Ow .i64 2 B w b m d ys) (hap : Apart a b) (hn : n ≤ 1000) (hm : m ≤ 1000) (h0 : 0 ≤ k) (hk : k ≤ 1000000) :
    Calls Try.prog 42 #[.agg #[.string s, .int .i64 K, .int .i64 p, .int .i64 q, .int .i64 y, .slice a n c, .int .i64 co, .slice b m d], .int .i64 k] w
      (fun e w' => e = .returned (.int .i64 (k + n + m)) ∧ Ow .i64 2 B w' a n c (seqI k n) ∧ Ow .i64 2 B w' b m d (seqI (k + n) m) ∧ ∃ wA wB, Below w.heap.size w wA ∧ wA.grownBy wB (blk a) ∧ wB.grownBy w' (blk b)) := by
  have hF := fam_new w s K p q y (.slice a n c) co (.slice b m d) 57
  have hal := Below.alloc (Below.refl w.heap.size w) (Nat.le_refl _) (.cells #[.string s, .int .i64 K, .int .i64 p, .int .i64 q, .int .i64 y, .slice a n c, .int .i64 co, .slice b m d] 57)
  have hs : (w.alloc (.cells #[.string s, .int .i64 K, .int .i64 p, .int .i64 q, .int .i64 y, .slice a n c, .int .i64 co, .slice b m d] 57)).heap.size = w.heap.size + 1 := by simp
  have hla : some w.heap.size ≠ blk a := fun e => by have := (h1.lt _ e.symm).2; omega
  have hlb : some w.heap.size ≠ blk b := fun e => by have := (h2.lt _ e.symm).2; omega
  obtain ⟨g0, g1, g2, g3, g4, g5, g6, g7⟩ := hF
  go_enter Try.func42, Try.ntmps42
  go_wp2_with fail
  generalize (w.alloc (.cells #[.string s, .int .i64 K, .int .i64 p, .int .i64 q, .int .i64 y, .slice a n c, .int .i64 co, .slice b m d] 57)) = W0 at *
  refine (markInt64S_any B a n c xs k W0 (h1.keep hal) (by omega) h0 (by omega)).mono ?_
  rintro e w1 ⟨rfl, o1, hg1⟩
  have o2 := (h2.keep hal).sep hg1 (fun g x y => hap g y x)
  have g7' := (World.cell?_of_block (a := ⟨w.heap.size, 7, none⟩) (hg1.block w.heap.size (by omega) hla)).trans g7
  go_wp2_with fail
  refine (markInt64S_any B b m d ys (k + n) w1 o2 (by omega) (by omega) (by omega)).mono ?_
  rintro e w2 ⟨rfl, o3, hg2⟩
  go_wp2_with fail
  go_ret
  exact ⟨rfl, o1.sep hg2 hap, o3, W0, w1, hal, hg1, hg2⟩
set_option maxHeartbeats 1000000 in
theorem heldFamily_seq (s : ByteArray) (K p q y co : Int) (a b : Option Addr) (n c m d : Nat) (k : Int) (w : World) (h1 : Rd .i64 w a n (seqI k n)) (h2 : Rd .i64 w b m (seqI (k + n) m)) (hn : n ≤ 1000) (hm : m ≤ 1000) (h0 : 0 ≤ k) (hk : k ≤ 1000000) :
    Calls Try.prog 43 #[.agg #[.string s, .int .i64 K, .int .i64 p, .int .i64 q, .int .i64 y, .slice a n c, .int .i64 co, .slice b m d], .int .i64 k] w (Ret (.int .i64 (k + n + m)) w) := by
  have hF := fam_new w s K p q y (.slice a n c) co (.slice b m d) 57
  have hal := Below.alloc (Below.refl w.heap.size w) (Nat.le_refl _) (.cells #[.string s, .int .i64 K, .int .i64 p, .int .i64 q, .int .i64 y, .slice a n c, .int .i64 co, .slice b m d] 57)
  have d1 : decide (k + (n : Int) < 0) = false := by simp; omega
  have d2 : decide (k + (n : Int) + (m : Int) < 0) = false := by simp; omega
  obtain ⟨g0, g1, g2, g3, g4, g5, g6, g7⟩ := hF
  go_enter Try.func43, Try.ntmps43
  go_wp2_with fail
  generalize (w.alloc (.cells #[.string s, .int .i64 K, .int .i64 p, .int .i64 q, .int .i64 y, .slice a n c, .int .i64 co, .slice b m d] 57)) = W0 at *
  refine (heldInt64S_seq a n c k W0 (h1.to hal) (by omega) h0 (by omega)).mono ?_
  rintro e w1 ⟨rfl, rfl⟩
  go_wp2_with fail
  refine (heldInt64S_seq b m d (k + n) _ (h2.to hal) (by omega) (by omega) (by omega)).mono ?_
  rintro e w2 ⟨rfl, rfl⟩
  go_wp2_with fail
  go_ret
  exact ⟨rfl, hal⟩
end Go.Proofs.Ytckmenjbblgiiaa
