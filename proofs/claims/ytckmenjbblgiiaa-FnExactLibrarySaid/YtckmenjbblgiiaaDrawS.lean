/-
  Plain facts about the source of numbers: what keeps it, what it keeps.
  Conditions: none.
-/
import Derived.Test.YtckmenjbblgiiaaDraw
set_option linter.unusedVariables false
namespace Go.Proofs.Ytckmenjbblgiiaa
open Go.RowKit Go.G8
theorem Src_le {B S : Nat} {w : World} (h : Src B w S) : B ≤ S ∧ B ≤ w.heap.size ∧ S < w.heap.size := by
  obtain ⟨_, _, _, _, _, _, _, h1, h2, h3, _⟩ := h
  exact ⟨h1, h3, h2⟩
theorem below_src {B S : Nat} {w w' : World} (h : Src B w S) (g : w.grownBy w' (some S)) : Below B w w' := by
  obtain ⟨h1, h2, h3⟩ := Src_le h
  exact (Below.refl B w).grown g h2 (fun k e => by injection e with e; omega)
theorem src_keep {B S : Nat} {w w' : World} (h : Src B w S) (hb : Below w.heap.size w w') : Src B w' S := by
  obtain ⟨a, m, c, xs, at_, seed, hm, hBS, hSw, hBw, hat, hv, c0, c1, c2, hfz, hrd, hfits⟩ := h
  obtain ⟨hcc, hff⟩ := bcell hb
  have := hb.size
  exact ⟨a, m, c, xs, at_, seed, hm, hBS, by omega, by omega, hat, hv, (hcc S 0 hSw).trans c0, (hcc S 1 hSw).trans c1, (hcc S 2 hSw).trans c2, fun i => (hff S i hSw).trans (hfz i), hrd.keep (fun p hp => hb.cell (by omega)), hfits⟩
theorem keeps_trans {S : Nat} {w w1 w2 : World} (h1 : w.grownBy w1 (some S)) (h2 : w1.grownBy w2 (some S)) : w.grownBy w2 (some S) :=
  ⟨h2.os.trans h1.os, h2.tape.trans h1.tape, h2.output.trans h1.output, Nat.le_trans h1.size h2.size, fun q hq hne => (h2.block q (Nat.lt_of_lt_of_le hq h1.size) hne).trans (h1.block q hq hne)⟩
theorem keeps_below {S : Nat} {w w1 : World} (h : Below w.heap.size w w1) : w.grownBy w1 (some S) :=
  ⟨h.os, h.tape, h.output, h.size, fun q hq _ => h.block q hq⟩
theorem keeps_new {S b : Nat} {w w1 w2 : World} (h1 : w.grownBy w1 (some S)) (h2 : w1.grownBy w2 (some b)) (hb : w.heap.size ≤ b) : w.grownBy w2 (some S) :=
  ⟨h2.os.trans h1.os, h2.tape.trans h1.tape, h2.output.trans h1.output, Nat.le_trans h1.size h2.size, fun q hq hne => (h2.block q (Nat.lt_of_lt_of_le hq h1.size) (fun e => by have := Option.some.inj e; omega)).trans (h1.block q hq hne)⟩
theorem gcell {w w' : World} {S b : Nat} (hg : w.grownBy w' (some S)) (hb : b < w.heap.size) (hne : b ≠ S) (i : Nat) : w'.cell? ⟨b, i, none⟩ = w.cell? ⟨b, i, none⟩ ∧ w'.frozen? ⟨b, i, none⟩ = w.frozen? ⟨b, i, none⟩ := by
  have h := hg.block b hb (fun e => hne (Option.some.inj e))
  exact ⟨World.cell?_of_block (a := ⟨b, i, none⟩) h, World.frozen?_of_block (a := ⟨b, i, none⟩) h⟩
theorem src_sep {B S b : Nat} {w w' : World} (h : Src B w S) (hg : w.grownBy w' (some b)) (hne : b ≠ S) (hb : B ≤ b) : Src B w' S := by
  obtain ⟨a, m, c, xs, at_, seed, hm, hBS, hSw, hBw, hat, hv, c0, c1, c2, hfz, hrd, hfits⟩ := h
  have hs := hg.size
  have k := fun i => gcell hg hSw (fun e => hne e.symm) i
  exact ⟨a, m, c, xs, at_, seed, hm, hBS, by omega, by omega, hat, hv, (k 0).1.trans c0, (k 1).1.trans c1, (k 2).1.trans c2, fun i => (k i).2.trans (hfz i), hrd.keep (fun p hp => World.cell?_of_block (hg.block p.block (by omega) (fun e => by injection e; omega))), hfits⟩
theorem cell_new (w : World) (row : Array Value) (E : TypeId) (j : Nat) : (w.alloc (.cells row E)).cell? ⟨w.heap.size, j, none⟩ = row[j]? := by
  rw [cell_of_row _ _ _ _ _ (0, 0) (heap_alloc_new w _)]
end Go.Proofs.Ytckmenjbblgiiaa
