/-
  Texts of the proof, one behind the other: each bears its own heading.
  Conditions: as the headings say.
-/
import Derived.Test.YtnajjofaijpciaaDraw
import Derived.Test.YtnajjofaijpciaaMg24
import Derived.Test.YtnajjofaijpciaaMg14
/-
  Plain facts about the source of numbers: what keeps it, what it keeps.
  Conditions: none.
-/
set_option linter.unusedVariables false
namespace Go.Proofs.Ytnajjofaijpciaa
open Go.RowKit Go.G8
theorem Src_le {B S : Nat} {w : World} (h : Src B w S) : B ≤ S ∧ B ≤ w.heap.size ∧ S < w.heap.size := by
  obtain ⟨_, _, _, _, _, _, _, h1, h2, h3, _⟩ := h
  exact ⟨h1, h3, h2⟩
theorem below_src {B S : Nat} {w w' : World} (h : Src B w S) (g : w.grownBy w' (some S)) : Below B w w' := by
  obtain ⟨h1, h2, h3⟩ := Src_le h
  exact (Below.refl B w).grown g h2 (fun k e => by injection e with e; omega)
theorem src_keep {B S : Nat} {w w' : World} (h : Src B w S) (hb : Below w.heap.size w w') : Src B w' S := by
  obtain ⟨a, m, c, xs, at_, seed, hm, hBS, hSw, hBw, hat, hv, c0, c1, c2, hfz, hrd, hfits⟩ := h
  obtain ⟨hcc, hff⟩ := bcell hb
  have := hb.size
  exact ⟨a, m, c, xs, at_, seed, hm, hBS, by omega, by omega, hat, hv, (hcc S 0 hSw).trans c0, (hcc S 1 hSw).trans c1, (hcc S 2 hSw).trans c2, fun i => (hff S i hSw).trans (hfz i), hrd.keep (fun p hp => hb.cell (by omega)), hfits⟩
theorem keeps_trans {S : Nat} {w w1 w2 : World} (h1 : w.grownBy w1 (some S)) (h2 : w1.grownBy w2 (some S)) : w.grownBy w2 (some S) :=
  ⟨h2.os.trans h1.os, h2.tape.trans h1.tape, h2.output.trans h1.output, Nat.le_trans h1.size h2.size, fun q hq hne => (h2.block q (Nat.lt_of_lt_of_le hq h1.size) hne).trans (h1.block q hq hne)⟩
theorem keeps_below {S : Nat} {w w1 : World} (h : Below w.heap.size w w1) : w.grownBy w1 (some S) :=
  ⟨h.os, h.tape, h.output, h.size, fun q hq _ => h.block q hq⟩
theorem keeps_new {S b : Nat} {w w1 w2 : World} (h1 : w.grownBy w1 (some S)) (h2 : w1.grownBy w2 (some b)) (hb : w.heap.size ≤ b) : w.grownBy w2 (some S) :=
  ⟨h2.os.trans h1.os, h2.tape.trans h1.tape, h2.output.trans h1.output, Nat.le_trans h1.size h2.size, fun q hq hne => (h2.block q (Nat.lt_of_lt_of_le hq h1.size) (fun e => by have := Option.some.inj e; omega)).trans (h1.block q hq hne)⟩
theorem gcell {w w' : World} {S b : Nat} (hg : w.grownBy w' (some S)) (hb : b < w.heap.size) (hne : b ≠ S) (i : Nat) : w'.cell? ⟨b, i, none⟩ = w.cell? ⟨b, i, none⟩ ∧ w'.frozen? ⟨b, i, none⟩ = w.frozen? ⟨b, i, none⟩ := by
  have h := hg.block b hb (fun e => hne (Option.some.inj e))
  exact ⟨World.cell?_of_block (a := ⟨b, i, none⟩) h, World.frozen?_of_block (a := ⟨b, i, none⟩) h⟩
theorem src_sep {B S b : Nat} {w w' : World} (h : Src B w S) (hg : w.grownBy w' (some b)) (hne : b ≠ S) (hb : B ≤ b) : Src B w' S := by
  obtain ⟨a, m, c, xs, at_, seed, hm, hBS, hSw, hBw, hat, hv, c0, c1, c2, hfz, hrd, hfits⟩ := h
  have hs := hg.size
  have k := fun i => gcell hg hSw (fun e => hne e.symm) i
  exact ⟨a, m, c, xs, at_, seed, hm, hBS, by omega, by omega, hat, hv, (k 0).1.trans c0, (k 1).1.trans c1, (k 2).1.trans c2, fun i => (k i).2.trans (hfz i), hrd.keep (fun p hp => World.cell?_of_block (hg.block p.block (by omega) (fun e => by injection e; omega))), hfits⟩
theorem cell_new (w : World) (row : Array Value) (E : TypeId) (j : Nat) : (w.alloc (.cells row E)).cell? ⟨w.heap.size, j, none⟩ = row[j]? := by
  rw [cell_of_row _ _ _ _ _ (0, 0) (heap_alloc_new w _)]
end Go.Proofs.Ytnajjofaijpciaa
/-
  Contracts: the bits that the reference draws.
  Conditions: codes of at most 4096 bytes.
-/
set_option linter.unusedVariables false
namespace Go.Proofs.Ytnajjofaijpciaa
open Go.RowKit Go.G8
/-- Numbers from -1 to 2. -/
def sm (xs : List Int) : Prop := ∀ x ∈ xs, -1 ≤ x ∧ x ≤ 2
theorem sm_fits {xs : List Int} (h : sm xs) : ∀ x ∈ xs, fits .i64 x := fun x hx => by
  have := h x hx
  show -9223372036854775808 ≤ x ∧ x ≤ 9223372036854775807
  omega
theorem sm_snoc {xs : List Int} {x : Int} (h : sm xs) (hx : -1 ≤ x ∧ x ≤ 2) : sm (xs ++ [x]) := by
  intro y hy
  rcases List.mem_append.1 hy with hy | hy
  · exact h y hy
  · rw [List.mem_singleton.1 hy]; exact hx
/-- A list of numbers of the call's own, from block w.heap.size on; the source is kept. -/
def DrawnB (B S : Nat) (w : World) (e : Ending) (w' : World) : Prop :=
  ∃ (a : Option Addr) (n c : Nat) (xs : List Int), e = .returned (.slice a n c) ∧ n ≤ 9000 ∧ sm xs ∧ Ow .i64 2 w.heap.size w' a n c xs ∧ Src B w' S ∧ w.grownBy w' (some S)
theorem src_under {B D S : Nat} {w w' : World} (h : Src B w S) (hb : Below D w w') (hS : S < D) (hB : B ≤ D) : Src B w' S := by
  obtain ⟨a, m, c, xs, at_, seed, hm, hBS, hSw, hBw, hat, hv, c0, c1, c2, hfz, hrd, hfits⟩ := h
  have := hb.size
  exact ⟨a, m, c, xs, at_, seed, hm, hBS, by omega, by omega, hat, hv, (hb.cell (p := ⟨S, 0, none⟩) hS).trans c0, (hb.cell (p := ⟨S, 1, none⟩) hS).trans c1, (hb.cell (p := ⟨S, 2, none⟩) hS).trans c2, fun i => (hb.frozen (p := ⟨S, i, none⟩) hS).trans (hfz i), hrd.keep (fun p hp => hb.cell (by omega)), hfits⟩
theorem keeps_under {S : Nat} {w w1 w2 : World} (h1 : w.grownBy w1 (some S)) (h2 : Below w.heap.size w1 w2) : w.grownBy w2 (some S) :=
  ⟨h2.os.trans h1.os, h2.tape.trans h1.tape, h2.output.trans h1.output, Nat.le_trans h1.size h2.size, fun q hq hne => (h2.block q hq).trans (h1.block q hq hne)⟩
theorem ow_apart {K : IntKind} {E D n c S : Nat} {w w' : World} {a : Option Addr} {xs : List Int} (h : Ow K E D w a n c xs) (hS : S < D) (hg : w.grownBy w' (some S)) : Ow K E D w' a n c xs :=
  h.kept hg (fun g e => by injection e with e; omega)
theorem fits_in {x : Int} (h : -9223372036854775808 ≤ x ∧ x ≤ 9223372036854775807) : fits .i64 x := h
end Go.Proofs.Ytnajjofaijpciaa
/-
  Contracts: the value of a character; which of two cells is better (some answer).
  Conditions: modes that write text, bytes.
-/
set_option linter.unusedVariables false
namespace Go.Proofs.Ytnajjofaijpciaa
open Go.RowKit Go.G8
set_option maxRecDepth 20000 in
theorem l09Set_any (m : Int) (w : World) (h : 1 ≤ m ∧ m ≤ 3) : Calls Try.prog 77 #[.int .i64 m] w (fun e w' => ∃ S : ByteArray, e = .returned (.string S) ∧ (1 ≤ S.size ∧ S.size ≤ 45) ∧ w' = w) := by
  have hc : m = 1 ∨ m = 2 ∨ m = 3 := by omega
  rcases hc with rfl | rfl | rfl
  all_goals
    go_enter Try.func77, Try.ntmps77
    go_wp2_with fail
    go_ret
    exact ⟨_, rfl, ⟨by decide, by decide⟩, rfl⟩
set_option maxHeartbeats 1000000 in
set_option maxRecDepth 20000 in
theorem charValue_any (m b : Int) (w : World) (h : 1 ≤ m ∧ m ≤ 4) (hb : 0 ≤ b ∧ b ≤ 255) :
    Calls Try.prog 95 #[.int .i64 m, .int .i64 b] w (fun e w' => ∃ r : Int, e = .returned (.int .i64 r) ∧ (-1 ≤ r ∧ r ≤ 255) ∧ (m = 4 → r = b) ∧ Below w.heap.size w w') := by
  have hn1 : ¬ ¬ (0 ≤ b ∧ b ≤ 255) := not_not_intro hb
  by_cases hm : m = 4
  · subst hm
    go_enter Try.func95, Try.ntmps95
    go_wp2_with fail
    refine (l01In_yes b 0 255 _ hb).mono ?_
    rintro e w1 ⟨rfl, rfl⟩
    go_wp2_with fail
    refine (l01In_yes 4 1 4 _ (by decide)).mono ?_
    rintro e w1 ⟨rfl, rfl⟩
    go_wp2_with fail
    go_ret
    exact ⟨b, rfl, by omega, fun _ => rfl, Below.refl _ _⟩
  · have hm4 : (m == 4) = false := by rw [beq_eq_false_iff_ne]; exact hm
    go_enter Try.func95, Try.ntmps95
    go_wp2_with fail
    refine (l01In_yes b 0 255 _ hb).mono ?_
    rintro e w1 ⟨rfl, rfl⟩
    go_wp2_with fail
    refine (l01In_yes m 1 4 _ h).mono ?_
    rintro e w1 ⟨rfl, rfl⟩
    go_wp2_with fail
    refine (l09Set_any m _ (by omega)).mono ?_
    rintro e w1 ⟨S, rfl, hS, rfl⟩
    obtain ⟨hS1, hS2⟩ := hS
    go_wp2_with fail
    go_loopw [6] (fun i wr => ∃ k : Nat, k ≤ S.size ∧ i = .int .i64 k ∧ w1 = wr) (fun i _ => S.size - (intOf i).toNat)
    case atStart => exact ⟨0, Nat.zero_le _, rfl, rfl⟩
    case round =>
      obtain ⟨k, hk, rfl, rfl⟩ := hrel
      by_cases hlt : k < S.size
      · obtain ⟨x, hsx, hx, hx1, hx2⟩ := str_at S k hlt
        have hd : decide ((k : Int) < (S.size : Int)) = true := by rw [decide_eq_true_eq]; omega
        by_cases hxb : x = b
        · have hq : (x == b) = true := by simp [hxb]
          go_wp2_with fail
          go_ret
          exact ⟨(k : Int), rfl, by omega, fun e => absurd e hm, Below.refl _ _⟩
        · have hq : (x == b) = false := by rw [beq_eq_false_iff_ne]; exact hxb
          go_wp2_with fail
          go_roundw
          case rel => exact ⟨k + 1, by omega, by go_num, by first | trivial | rfl⟩
          case measure => simp [intOf]; omega
      · obtain rfl : k = S.size := by omega
        have hd : decide ((S.size : Int) < (S.size : Int)) = false := by simp
        go_wp2_with fail
        go_ret
        exact ⟨-1, rfl, by omega, fun e => absurd e hm, Below.refl _ _⟩
set_option maxHeartbeats 1000000 in
set_option maxRecDepth 20000 in
theorem l10Better_any (a1 a2 a3 a4 b1 b2 b3 b4 : Int) (w : World) :
    Calls Try.prog 96 #[.agg #[.int .i64 a1, .int .i64 a2, .int .i64 a3, .int .i64 a4], .agg #[.int .i64 b1, .int .i64 b2, .int .i64 b3, .int .i64 b4]] w (fun e w' => ∃ r : Bool, e = .returned (.bool r) ∧ Below w.heap.size w w') := by
  go_enter Try.func96, Try.ntmps96
  go_wp2_with fail
  all_goals go_ret
  all_goals exact ⟨_, rfl, Below.alloc (Below.alloc (Below.refl _ _) (Nat.le_refl _) _) (by simp) _⟩
end Go.Proofs.Ytnajjofaijpciaa
