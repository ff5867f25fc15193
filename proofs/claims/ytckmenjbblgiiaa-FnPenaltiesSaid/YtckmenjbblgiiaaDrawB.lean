/-
  Contracts: the bits that the reference draws.
  Conditions: codes of at most 4096 bytes.
-/
import Derived.Test.YtckmenjbblgiiaaDrawS
import Derived.Test.YtckmenjbblgiiaaL01d
set_option linter.unusedVariables false
namespace Go.Proofs.Ytckmenjbblgiiaa
open Go.RowKit Go.G8
/-- Numbers from -1 to 2. -/
def sm (xs : List Int) : Prop := ∀ x ∈ xs, -1 ≤ x ∧ x ≤ 2
theorem sm_fits {xs : List Int} (h : sm xs) : ∀ x ∈ xs, fits .i64 x := fun x hx => by
  have := h x hx
  show -9223372036854775808 ≤ x ∧ x ≤ 9223372036854775807
  omega
theorem sm_snoc {xs : List Int} {x : Int} (h : sm xs) (hx : -1 ≤ x ∧ x ≤ 2) : sm (xs ++ [x]) := by
  intro y hy
  rcases List.mem_append.1 hy with hy | hy
  · exact h y hy
  · rw [List.mem_singleton.1 hy]; exact hx
/-- A list of numbers of the call's own, from block w.heap.size on; the source is kept. -/
def DrawnB (B S : Nat) (w : World) (e : Ending) (w' : World) : Prop :=
  ∃ (a : Option Addr) (n c : Nat) (xs : List Int), e = .returned (.slice a n c) ∧ n ≤ 9000 ∧ sm xs ∧ Ow .i64 2 w.heap.size w' a n c xs ∧ Src B w' S ∧ w.grownBy w' (some S)
theorem src_under {B D S : Nat} {w w' : World} (h : Src B w S) (hb : Below D w w') (hS : S < D) (hB : B ≤ D) : Src B w' S := by
  obtain ⟨a, m, c, xs, at_, seed, hm, hBS, hSw, hBw, hat, hv, c0, c1, c2, hfz, hrd, hfits⟩ := h
  have := hb.size
  exact ⟨a, m, c, xs, at_, seed, hm, hBS, by omega, by omega, hat, hv, (hb.cell (p := ⟨S, 0, none⟩) hS).trans c0, (hb.cell (p := ⟨S, 1, none⟩) hS).trans c1, (hb.cell (p := ⟨S, 2, none⟩) hS).trans c2, fun i => (hb.frozen (p := ⟨S, i, none⟩) hS).trans (hfz i), hrd.keep (fun p hp => hb.cell (by omega)), hfits⟩
theorem keeps_under {S : Nat} {w w1 w2 : World} (h1 : w.grownBy w1 (some S)) (h2 : Below w.heap.size w1 w2) : w.grownBy w2 (some S) :=
  ⟨h2.os.trans h1.os, h2.tape.trans h1.tape, h2.output.trans h1.output, Nat.le_trans h1.size h2.size, fun q hq hne => (h2.block q hq).trans (h1.block q hq hne)⟩
theorem ow_apart {K : IntKind} {E D n c S : Nat} {w w' : World} {a : Option Addr} {xs : List Int} (h : Ow K E D w a n c xs) (hS : S < D) (hg : w.grownBy w' (some S)) : Ow K E D w' a n c xs :=
  h.kept hg (fun g e => by injection e with e; omega)
theorem fits_in {x : Int} (h : -9223372036854775808 ≤ x ∧ x ≤ 9223372036854775807) : fits .i64 x := h
end Go.Proofs.Ytckmenjbblgiiaa
