/-
  Contracts: the places of the format, by the reference and by the program.
  Conditions: sizes from 17 to 41.
-/
import Derived.Test.YtckmenjbblgiiaaProg
import Derived.Test.YtckmenjbblgiiaaRange
import Derived.Test.YtckmenjbblgiiaaBits
import Derived.Test.YtckmenjbblgiiaaRowsF
set_option linter.unusedVariables false
namespace Go.Proofs.Ytckmenjbblgiiaa
open Go.RowKit Go.G8
def flatP (ps : List (Int × Int)) : List Value := ps.flatMap (fun p => [.int .i64 p.1, .int .i64 p.2])
def firstP : List (Int × Int) := [(8, 0), (8, 1), (8, 2), (8, 3), (8, 4), (8, 5), (8, 7), (8, 8), (7, 8), (5, 8), (4, 8), (3, 8), (2, 8), (1, 8), (0, 8)]
def secondP (n : Int) : List (Int × Int) := [(n - 1, 8), (n - 2, 8), (n - 3, 8), (n - 4, 8), (n - 5, 8), (n - 6, 8), (n - 7, 8), (8, n - 8), (8, n - 8 + 1), (8, n - 8 + 2), (8, n - 8 + 3), (8, n - 8 + 4), (8, n - 8 + 5), (8, n - 8 + 6), (8, n - 8 + 7)]
theorem first_a {k : Nat} (h : k < 6) : firstP[k]? = some (8, (k : Int)) := by
  obtain rfl | rfl | rfl | rfl | rfl | rfl : k = 0 ∨ k = 1 ∨ k = 2 ∨ k = 3 ∨ k = 4 ∨ k = 5 := by omega
  all_goals rfl
theorem first_b {k : Nat} (h : k < 6) : firstP[9 + k]? = some (5 - (k : Int), 8) := by
  obtain rfl | rfl | rfl | rfl | rfl | rfl : k = 0 ∨ k = 1 ∨ k = 2 ∨ k = 3 ∨ k = 4 ∨ k = 5 := by omega
  all_goals rfl
theorem second_a (n : Int) {k : Nat} (h : k < 7) : (secondP n)[k]? = some (n - ((k : Int) + 1), 8) := by
  obtain rfl | rfl | rfl | rfl | rfl | rfl | rfl : k = 0 ∨ k = 1 ∨ k = 2 ∨ k = 3 ∨ k = 4 ∨ k = 5 ∨ k = 6 := by omega
  all_goals rfl
theorem second_b (n : Int) {k : Nat} (h : k < 8) : (secondP n)[7 + k]? = some (8, n - 8 + (k : Int)) := by
  obtain rfl | rfl | rfl | rfl | rfl | rfl | rfl | rfl : k = 0 ∨ k = 1 ∨ k = 2 ∨ k = 3 ∨ k = 4 ∨ k = 5 ∨ k = 6 ∨ k = 7 := by omega
  all_goals simp [secondP]
theorem flatP_snoc {L : List (Int × Int)} {k : Nat} {p : Int × Int} (h : L[k]? = some p) : flatP (L.take (k + 1)) = flatP (L.take k) ++ [.int .i64 p.1, .int .i64 p.2] := by
  obtain ⟨hk, rfl⟩ := List.getElem?_eq_some_iff.1 h
  unfold flatP
  rw [List.take_succ_eq_append_getElem hk, List.flatMap_append]
  simp
/-- One of two rows has grown. -/
theorem two_push {E E' sz D n c m d : Nat} {w wr w' : World} {a a' b : Option Addr} {xs ys : List Value} {A : Array Value} (ho : OwV E sz D wr a n c xs) (hp : OwV E sz D wr b m d ys) (hap : Apart a b) (hB : Below D w wr) (hD : D ≤ wr.heap.size)
    (hg : (wr.alloc (.cells A E')).grownBy w' (blk a)) (hbl : blk a' = blk a ∨ blk a' = some (wr.heap.size + 1)) : OwV E sz D w' b m d ys ∧ Apart a' b ∧ Below D w w' := by
  have hal := Below.alloc (Below.refl wr.heap.size wr) (Nat.le_refl _) (.cells A E')
  refine ⟨(hp.keep hal).sep hg (fun g g1 g2 => hap g g2 g1), fun g g1 g2 => ?_, (hB.trans (hal.mono hD)).grown hg (Nat.le_trans hD hal.size) (fun g e => (ho.lt g e).1)⟩
  rcases hbl with h | h
  · exact hap g (by rw [← h]; exact g1) g2
  · rw [h] at g1
    injection g1 with g1
    have := (hp.lt g g2).2
    omega
def RetFmt (n : Int) (w : World) (e : Ending) (w' : World) : Prop :=
  ∃ (a : Option Addr) (c : Nat) (b : Option Addr) (d : Nat), e = .returned (.tuple #[.slice a 15 c, .slice b 15 d]) ∧ OwV 95 2 w.heap.size w' a 15 c (flatP firstP) ∧ OwV 95 2 w.heap.size w' b 15 d (flatP (secondP n)) ∧ Apart a b ∧ Below w.heap.size w w'
theorem info_place : (Try.prog.info? 95).map (fun i => (i.zero, i.size, i.bytes)) = some (some (.agg #[.int .i64 0, .int .i64 0]), 2, 16) := by kernel_rfl
theorem two_empty (w : World) (E sz : Nat) : OwV E sz w.heap.size ((w.alloc (.cells #[] E)).alloc (.cells #[] E)) (some ⟨w.heap.size, 0, none⟩) 0 0 [] ∧ OwV E sz w.heap.size ((w.alloc (.cells #[] E)).alloc (.cells #[] E)) (some ⟨w.heap.size + 1, 0, none⟩) 0 0 [] ∧ Apart (some ⟨w.heap.size, 0, none⟩) (some ⟨w.heap.size + 1, 0, none⟩) ∧ Below w.heap.size w ((w.alloc (.cells #[] E)).alloc (.cells #[] E)) := by
  have h2 := OwV.empty E sz (w.heap.size + 1) (w.alloc (.cells #[] E)) (by simp)
  refine ⟨(OwV.empty E sz w.heap.size w (Nat.le_refl _)).alloc _, ?_, fun g g1 g2 => by simp [blk] at g1 g2; omega, Below.alloc (Below.alloc (Below.refl w.heap.size w) (Nat.le_refl _) _) (by simp) _⟩
  have h3 := h2.more (show w.heap.size ≤ w.heap.size + 1 by omega)
  simpa using h3
/-- The two lists in the middle of their making: i places of the first, j of the second. -/
def PSt (n : Int) (w : World) (a : Option Addr) (c i : Nat) (b : Option Addr) (d j : Nat) (wr : World) : Prop :=
  OwV 95 2 w.heap.size wr a i c (flatP (firstP.take i)) ∧ OwV 95 2 w.heap.size wr b j d (flatP ((secondP n).take j)) ∧ Apart a b ∧ Below w.heap.size w wr
theorem pst_first {E' : Nat} {n : Int} {w wr w' : World} {a a' b : Option Addr} {c c' d i j : Nat} {A B : Array Value} (h : PSt n w a c i b d j wr) {p q : Int} (hp : firstP[i]? = some (p, q)) (hA : A.toList = [.int .i64 p, .int .i64 q])
    (r1 : OwV 95 2 w.heap.size w' a' (i + 1) c' (flatP (firstP.take i) ++ A.toList)) (r2 : (wr.alloc (.cells B E')).grownBy w' (blk a)) (r3 : blk a' = blk a ∨ blk a' = some (wr.heap.size + 1)) : PSt n w a' c' (i + 1) b d j w' := by
  obtain ⟨h1, h2, h3, h4⟩ := h
  obtain ⟨g1, g2, g3⟩ := two_push h1 h2 h3 h4 h4.size r2 r3
  rw [hA] at r1
  exact ⟨by rw [flatP_snoc hp]; exact r1, g1, g2, g3⟩
theorem pst_three {E' : Nat} {n : Int} {w wr w' : World} {a a' b : Option Addr} {c c' d j : Nat} {B : Array Value} (h : PSt n w a c 6 b d j wr)
    (r1 : OwV 95 2 w.heap.size w' a' (6 + 3) c' (flatP (firstP.take 6) ++ (#[.int .i64 8, .int .i64 7, .int .i64 8, .int .i64 8, .int .i64 7, .int .i64 8] : Array Value).toList)) (r2 : (wr.alloc (.cells B E')).grownBy w' (blk a)) (r3 : blk a' = blk a ∨ blk a' = some (wr.heap.size + 1)) : PSt n w a' c' 9 b d j w' := by
  obtain ⟨h1, h2, h3, h4⟩ := h
  obtain ⟨g1, g2, g3⟩ := two_push h1 h2 h3 h4 h4.size r2 r3
  exact ⟨r1, g1, g2, g3⟩
theorem pst_second {E' : Nat} {n : Int} {w wr w' : World} {a b b' : Option Addr} {c d d' i j : Nat} {A B : Array Value} (h : PSt n w a c i b d j wr) {p q : Int} (hp : (secondP n)[j]? = some (p, q)) (hA : A.toList = [.int .i64 p, .int .i64 q])
    (r1 : OwV 95 2 w.heap.size w' b' (j + 1) d' (flatP ((secondP n).take j) ++ A.toList)) (r2 : (wr.alloc (.cells B E')).grownBy w' (blk b)) (r3 : blk b' = blk b ∨ blk b' = some (wr.heap.size + 1)) : PSt n w a c i b' d' (j + 1) w' := by
  obtain ⟨h1, h2, h3, h4⟩ := h
  obtain ⟨g1, g2, g3⟩ := two_push h2 h1 (fun g x y => h3 g y x) h4 h4.size r2 r3
  rw [hA] at r1
  exact ⟨g1, by rw [flatP_snoc hp]; exact r1, fun g x y => g2 g y x, g3⟩
theorem pst_start (n : Int) (w : World) : PSt n w (some ⟨w.heap.size, 0, none⟩) 0 0 (some ⟨w.heap.size + 1, 0, none⟩) 0 0 ((w.alloc (.cells #[] 95)).alloc (.cells #[] 95)) := by
  obtain ⟨hO1, hO2, hap, hB⟩ := two_empty w 95 2
  exact ⟨hO1, hO2, hap, hB⟩
theorem pst_ret {n : Int} {w wr : World} {a b : Option Addr} {c d : Nat} (h : PSt n w a c 15 b d 15 wr) : RetFmt n w (.returned (.tuple #[.slice a 15 c, .slice b 15 d])) wr :=
  ⟨a, c, b, d, rfl, h.1, h.2.1, h.2.2.1, h.2.2.2⟩
set_option maxHeartbeats 1000000 in
set_option maxRecDepth 20000 in
theorem l14Format_any (n : Int) (w : World) (hn : 17 ≤ n ∧ n ≤ 41) : Calls Try.prog 63 #[.int .i64 n] w (RetFmt n w) := by
  obtain ⟨i0, hi, hz0, hz1, hz2⟩ := info_parts info_place
  have hP := pst_start n w
  go_enter Try.func63, Try.ntmps63
  go_wp2_with fail
  go_loopw [4, 6] (fun s i wr => ∃ (k : Nat) (a : Option Addr) (c : Nat), k ≤ 6 ∧ i = .int .i64 (k : Int) ∧ s = .slice a k c ∧ PSt n w a c k (some ⟨w.heap.size + 1, 0, none⟩) 0 0 wr) (fun _ i _ => 6 - (intOf i).toNat)
  case atStart => exact ⟨0, _, _, by omega, rfl, rfl, hP⟩
  case round =>
    clear hP
    obtain ⟨k, a1, c1, hk, rfl, rfl, hP⟩ := hrel
    by_cases hlt : k < 6
    · go_wp2_with (at_builtin; refine wpList_pushF _ rfl _ _ 31 rfl w.heap.size 95 _ i0 _ 2 16 Try.underlying31 hi hz0 hz1 hz2 rfl (by decide) (by omega) a1 k _ _ #[.int .i64 8, .int .i64 (k : Int)] 1 rfl hP.1 (by first | rfl | (simp; done) | (simp; rfl)) rfl (by intro u hu; simp at hu; rcases hu with rfl | rfl <;> rfl) (by omega) (by omega) hP.2.2.2.size ?_; intro a3 c3 w3 r1 r2 r3)
      have hP2 := pst_first hP (first_a hlt) rfl r1 r2 r3
      clear hP r1 r2 r3
      go_roundw
      case rel => first | exact ⟨k + 1, a3, c3, by omega, by go_num, rfl, hP2⟩ | exact ⟨k + 1, by omega, by omega, a3, c3, ⟨rfl, rfl, rfl⟩, hP2⟩
      case measure => simp [intOf]; omega
    · obtain rfl : k = 6 := by omega
      go_wp2_with (at_builtin; refine wpList_pushF _ rfl _ _ 31 rfl w.heap.size 95 _ i0 _ 2 16 Try.underlying31 hi hz0 hz1 hz2 rfl (by decide) (by omega) a1 6 _ _ #[.int .i64 8, .int .i64 7, .int .i64 8, .int .i64 8, .int .i64 7, .int .i64 8] 3 rfl hP.1 (by first | rfl | (simp; done) | (simp; rfl)) rfl (by intro u hu; simp at hu; rcases hu with rfl | rfl | rfl | rfl | rfl | rfl <;> rfl) (by omega) (by omega) hP.2.2.2.size ?_; intro a3 c3 w3 r1 r2 r3)
      have hP2 := pst_three hP r1 r2 r3
      clear hP r1 r2 r3 hk hlt
      go_loopw [4, 7] (fun s i wr => ∃ (k : Nat) (a : Option Addr) (c : Nat), k ≤ 6 ∧ i = .int .i64 (5 - (k : Int)) ∧ s = .slice a (9 + k) c ∧ PSt n w a c (9 + k) (some ⟨w.heap.size + 1, 0, none⟩) 0 0 wr) (fun _ i _ => (intOf i + 1).toNat)
      case atStart => exact ⟨0, _, _, by omega, rfl, rfl, hP2⟩
      case round =>
        clear hP2
        obtain ⟨k, a1, c1, hk, rfl, rfl, hP⟩ := hrel
        by_cases hlt : k < 6
        · go_wp2_with (at_builtin; refine wpList_pushF _ rfl _ _ 31 rfl w.heap.size 95 _ i0 _ 2 16 Try.underlying31 hi hz0 hz1 hz2 rfl (by decide) (by omega) a1 (9 + k) _ _ #[.int .i64 (5 - (k : Int)), .int .i64 8] 1 rfl hP.1 (by first | rfl | (simp; done) | (simp; rfl)) rfl (by intro u hu; simp at hu; rcases hu with rfl | rfl <;> rfl) (by omega) (by omega) hP.2.2.2.size ?_; intro a3 c3 w3 r1 r2 r3)
          have hP2 := pst_first hP (first_b hlt) rfl r1 r2 r3
          clear hP r1 r2 r3
          go_roundw
          case rel => first | exact ⟨k + 1, a3, c3, by omega, by go_num, rfl, hP2⟩ | exact ⟨k + 1, by omega, by omega, a3, c3, ⟨rfl, rfl, rfl⟩, hP2⟩
          case measure => simp [intOf]; omega
        · obtain rfl : k = 6 := by omega
          clear hk hlt
          go_wp2_with fail
          go_loopw [5, 8] (fun s i wr => ∃ (k : Nat) (b : Option Addr) (d : Nat), k ≤ 7 ∧ i = .int .i64 ((k : Int) + 1) ∧ s = .slice b k d ∧ PSt n w a1 c1 (9 + 6) b d k wr) (fun _ i _ => (8 - intOf i).toNat)
          case atStart => exact ⟨0, _, _, by omega, by go_num, rfl, hP⟩
          case round =>
            clear hP
            obtain ⟨k, b1, d1, hk, rfl, rfl, hP⟩ := hrel
            by_cases hlt : k < 7
            · go_wp2_with (at_builtin; refine wpList_pushF _ rfl _ _ 31 rfl w.heap.size 95 _ i0 _ 2 16 Try.underlying31 hi hz0 hz1 hz2 rfl (by decide) (by omega) b1 k _ _ #[.int .i64 (n - ((k : Int) + 1)), .int .i64 8] 1 rfl hP.2.1 (by first | rfl | (simp; done) | (simp; rfl)) rfl (by intro u hu; simp at hu; rcases hu with rfl | rfl <;> rfl) (by omega) (by omega) hP.2.2.2.size ?_; intro a3 c3 w3 r1 r2 r3)
              have hP2 := pst_second hP (second_a n hlt) rfl r1 r2 r3
              clear hP r1 r2 r3
              go_roundw
              case rel => first | exact ⟨k + 1, a3, c3, by omega, by go_num, rfl, hP2⟩ | exact ⟨k + 1, by omega, by omega, a3, c3, ⟨rfl, rfl, rfl⟩, hP2⟩
              case measure => simp [intOf]; omega
            · obtain rfl : k = 7 := by omega
              clear hk hlt
              go_wp2_with fail
              go_loopw [5, 9] (fun s i wr => ∃ (k : Nat) (b : Option Addr) (d : Nat), k ≤ 8 ∧ i = .int .i64 (n - 8 + (k : Int)) ∧ s = .slice b (7 + k) d ∧ PSt n w a1 c1 (9 + 6) b d (7 + k) wr) (fun _ i _ => (n - intOf i).toNat)
              case atStart => exact ⟨0, _, _, by omega, by go_num, rfl, hP⟩
              case round =>
                clear hP
                obtain ⟨k, b1, d1, hk, rfl, rfl, hP⟩ := hrel
                by_cases hlt : k < 8
                · go_wp2_with (at_builtin; refine wpList_pushF _ rfl _ _ 31 rfl w.heap.size 95 _ i0 _ 2 16 Try.underlying31 hi hz0 hz1 hz2 rfl (by decide) (by omega) b1 (7 + k) _ _ #[.int .i64 8, .int .i64 (n - 8 + (k : Int))] 1 rfl hP.2.1 (by first | rfl | (simp; done) | (simp; rfl)) rfl (by intro u hu; simp at hu; rcases hu with rfl | rfl <;> rfl) (by omega) (by omega) hP.2.2.2.size ?_; intro a3 c3 w3 r1 r2 r3)
                  have hP2 := pst_second hP (second_b n hlt) rfl r1 r2 r3
                  clear hP r1 r2 r3
                  go_roundw
                  case rel => first | exact ⟨k + 1, a3, c3, by omega, by go_num, rfl, hP2⟩ | exact ⟨k + 1, by omega, by omega, a3, c3, ⟨rfl, rfl, rfl⟩, hP2⟩
                  case measure => simp [intOf]; omega
                · obtain rfl : k = 8 := by omega
                  clear hk hlt
                  go_wp2_with fail
                  refine bodyPost_ret (v := .tuple #[.slice a1 15 c1, .slice b1 15 d1]) (by simp [results, Try.results63, go_sem]) rfl (pst_ret hP)
set_option maxHeartbeats 1000000 in
set_option maxRecDepth 20000 in
theorem formats_any (n : Int) (w : World) (hn : 17 ≤ n ∧ n ≤ 41) : Calls Try.prog 65 #[.int .i64 n] w (RetFmt n w) := by
  obtain ⟨i0, hi, hz0, hz1, hz2⟩ := info_parts info_place
  have hP := pst_start n w
  go_enter Try.func65, Try.ntmps65
  go_wp2_with fail
  go_loopw [4, 6] (fun s i wr => ∃ (k : Nat) (a : Option Addr) (c : Nat), k ≤ 6 ∧ i = .int .i64 (k : Int) ∧ s = .slice a k c ∧ PSt n w a c k (some ⟨w.heap.size + 1, 0, none⟩) 0 0 wr) (fun _ i _ => 6 - (intOf i).toNat)
  case atStart => exact ⟨0, _, _, by omega, rfl, rfl, hP⟩
  case round =>
    clear hP
    obtain ⟨k, a1, c1, hk, rfl, rfl, hP⟩ := hrel
    by_cases hlt : k < 6
    · go_wp2_with (at_builtin; refine wpList_pushF _ rfl _ _ 31 rfl w.heap.size 95 _ i0 _ 2 16 Try.underlying31 hi hz0 hz1 hz2 rfl (by decide) (by omega) a1 k _ _ #[.int .i64 8, .int .i64 (k : Int)] 1 rfl hP.1 (by first | rfl | (simp; done) | (simp; rfl)) rfl (by intro u hu; simp at hu; rcases hu with rfl | rfl <;> rfl) (by omega) (by omega) hP.2.2.2.size ?_; intro a3 c3 w3 r1 r2 r3)
      have hP2 := pst_first hP (first_a hlt) rfl r1 r2 r3
      clear hP r1 r2 r3
      go_roundw
      case rel => first | exact ⟨k + 1, a3, c3, by omega, by go_num, rfl, hP2⟩ | exact ⟨k + 1, by omega, by omega, a3, c3, ⟨rfl, rfl, rfl⟩, hP2⟩
      case measure => simp [intOf]; omega
    · obtain rfl : k = 6 := by omega
      go_wp2_with (at_builtin; refine wpList_pushF _ rfl _ _ 31 rfl w.heap.size 95 _ i0 _ 2 16 Try.underlying31 hi hz0 hz1 hz2 rfl (by decide) (by omega) a1 6 _ _ #[.int .i64 8, .int .i64 7, .int .i64 8, .int .i64 8, .int .i64 7, .int .i64 8] 3 rfl hP.1 (by first | rfl | (simp; done) | (simp; rfl)) rfl (by intro u hu; simp at hu; rcases hu with rfl | rfl | rfl | rfl | rfl | rfl <;> rfl) (by omega) (by omega) hP.2.2.2.size ?_; intro a3 c3 w3 r1 r2 r3)
      have hP2 := pst_three hP r1 r2 r3
      clear hP r1 r2 r3 hk hlt
      go_loopw [4, 7] (fun s i wr => ∃ (k : Nat) (a : Option Addr) (c : Nat), k ≤ 6 ∧ i = .int .i64 (5 - (k : Int)) ∧ s = .slice a (9 + k) c ∧ PSt n w a c (9 + k) (some ⟨w.heap.size + 1, 0, none⟩) 0 0 wr) (fun _ i _ => (intOf i + 1).toNat)
      case atStart => exact ⟨0, _, _, by omega, rfl, rfl, hP2⟩
      case round =>
        clear hP2
        obtain ⟨k, a1, c1, hk, rfl, rfl, hP⟩ := hrel
        by_cases hlt : k < 6
        · go_wp2_with (at_builtin; refine wpList_pushF _ rfl _ _ 31 rfl w.heap.size 95 _ i0 _ 2 16 Try.underlying31 hi hz0 hz1 hz2 rfl (by decide) (by omega) a1 (9 + k) _ _ #[.int .i64 (5 - (k : Int)), .int .i64 8] 1 rfl hP.1 (by first | rfl | (simp; done) | (simp; rfl)) rfl (by intro u hu; simp at hu; rcases hu with rfl | rfl <;> rfl) (by omega) (by omega) hP.2.2.2.size ?_; intro a3 c3 w3 r1 r2 r3)
          have hP2 := pst_first hP (first_b hlt) rfl r1 r2 r3
          clear hP r1 r2 r3
          go_roundw
          case rel => first | exact ⟨k + 1, a3, c3, by omega, by go_num, rfl, hP2⟩ | exact ⟨k + 1, by omega, by omega, a3, c3, ⟨rfl, rfl, rfl⟩, hP2⟩
          case measure => simp [intOf]; omega
        · obtain rfl : k = 6 := by omega
          clear hk hlt
          go_wp2_with fail
          go_loopw [5, 8] (fun s i wr => ∃ (k : Nat) (b : Option Addr) (d : Nat), k ≤ 7 ∧ i = .int .i64 (n - ((k : Int) + 1)) ∧ s = .slice b k d ∧ PSt n w a1 c1 (9 + 6) b d k wr) (fun _ i _ => (intOf i - (n - 8)).toNat)
          case atStart => exact ⟨0, _, _, by omega, by go_num, rfl, hP⟩
          case round =>
            clear hP
            obtain ⟨k, b1, d1, hk, rfl, rfl, hP⟩ := hrel
            by_cases hlt : k < 7
            · go_wp2_with (at_builtin; refine wpList_pushF _ rfl _ _ 31 rfl w.heap.size 95 _ i0 _ 2 16 Try.underlying31 hi hz0 hz1 hz2 rfl (by decide) (by omega) b1 k _ _ #[.int .i64 (n - ((k : Int) + 1)), .int .i64 8] 1 rfl hP.2.1 (by first | rfl | (simp; done) | (simp; rfl)) rfl (by intro u hu; simp at hu; rcases hu with rfl | rfl <;> rfl) (by omega) (by omega) hP.2.2.2.size ?_; intro a3 c3 w3 r1 r2 r3)
              have hP2 := pst_second hP (second_a n hlt) rfl r1 r2 r3
              clear hP r1 r2 r3
              go_roundw
              case rel => first | exact ⟨k + 1, a3, c3, by omega, by go_num, rfl, hP2⟩ | exact ⟨k + 1, by omega, by omega, a3, c3, ⟨rfl, rfl, rfl⟩, hP2⟩
              case measure => simp [intOf]; omega
            · obtain rfl : k = 7 := by omega
              clear hk hlt
              go_wp2_with fail
              go_loopw [5, 9] (fun s i wr => ∃ (k : Nat) (b : Option Addr) (d : Nat), k ≤ 8 ∧ i = .int .i64 (n - 8 + (k : Int)) ∧ s = .slice b (7 + k) d ∧ PSt n w a1 c1 (9 + 6) b d (7 + k) wr) (fun _ i _ => (n - intOf i).toNat)
              case atStart => exact ⟨0, _, _, by omega, by go_num, rfl, hP⟩
              case round =>
                clear hP
                obtain ⟨k, b1, d1, hk, rfl, rfl, hP⟩ := hrel
                by_cases hlt : k < 8
                · go_wp2_with (at_builtin; refine wpList_pushF _ rfl _ _ 31 rfl w.heap.size 95 _ i0 _ 2 16 Try.underlying31 hi hz0 hz1 hz2 rfl (by decide) (by omega) b1 (7 + k) _ _ #[.int .i64 8, .int .i64 (n - 8 + (k : Int))] 1 rfl hP.2.1 (by first | rfl | (simp; done) | (simp; rfl)) rfl (by intro u hu; simp at hu; rcases hu with rfl | rfl <;> rfl) (by omega) (by omega) hP.2.2.2.size ?_; intro a3 c3 w3 r1 r2 r3)
                  have hP2 := pst_second hP (second_b n hlt) rfl r1 r2 r3
                  clear hP r1 r2 r3
                  go_roundw
                  case rel => first | exact ⟨k + 1, a3, c3, by omega, by go_num, rfl, hP2⟩ | exact ⟨k + 1, by omega, by omega, a3, c3, ⟨rfl, rfl, rfl⟩, hP2⟩
                  case measure => simp [intOf]; omega
                · obtain rfl : k = 8 := by omega
                  clear hk hlt
                  go_wp2_with fail
                  refine bodyPost_ret (v := .tuple #[.slice a1 15 c1, .slice b1 15 d1]) (by simp [results, Try.results65, go_sem]) rfl (pst_ret hP)
end Go.Proofs.Ytckmenjbblgiiaa
