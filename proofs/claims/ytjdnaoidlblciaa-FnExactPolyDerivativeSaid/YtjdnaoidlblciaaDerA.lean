/-
  Plain words: leaving out zeros at the end, the derivative; a part of a row from its start.
  Conditions: none.
-/
import Derived.Test.YtjdnaoidlblciaaBase
set_option linter.unusedVariables false
namespace Go.G8
open Go.RowKit
def trimN (xs : List Int) : Nat → Nat
  | 0 => 0
  | k + 1 => if (xs[k]?).getD 0 = 0 then trimN xs k else k + 1
theorem trimN_le (xs : List Int) (k : Nat) : trimN xs k ≤ k := by
  induction k with
  | zero => exact Nat.le_refl _
  | succ k ih => unfold trimN; split <;> omega
theorem trimN_zero {xs : List Int} {k : Nat} (h : xs[k]? = some 0) : trimN xs (k + 1) = trimN xs k := by rw [trimN, h]; rfl
theorem trimN_stop {xs : List Int} {k : Nat} {x : Int} (h : xs[k]? = some x) (hx : x ≠ 0) : trimN xs (k + 1) = k + 1 := by rw [trimN, h]; exact if_neg hx
def trimL (xs : List Int) : List Int := xs.take (trimN xs xs.length)
def timesR (p q a k : Int) : Int := if q = 1 then a * (k % p) % p else a * (k % 2)
def derN (p q : Int) (xs : List Int) (m : Nat) : List Int := (List.range m).map (fun j : Nat => timesR p q ((xs[j + 1]?).getD 0) ((j : Int) + 1))
theorem derN_succ (p q : Int) (xs : List Int) (m : Nat) {x : Int} (h : xs[m + 1]? = some x) : derN p q xs (m + 1) = derN p q xs m ++ [timesR p q x ((m : Int) + 1)] := by
  unfold derN; rw [List.range_succ, List.map_append]; simp [h]
theorem derN_length (p q : Int) (xs : List Int) (m : Nat) : (derN p q xs m).length = m := by simp [derN]
/-- The first m of a row that is owned. -/
theorem Ow.front {K : IntKind} {E B : Nat} {w : World} {g n c m : Nat} {xs : List Int} (h : Ow K E B w (some ⟨g, 0, none⟩) n c xs) (hm : m ≤ n) : Ow K E B w (some ⟨g, 0, none⟩) m c (xs.take m) := by
  have hl := h.len
  refine ⟨by simp [ints]; omega, ?_⟩
  rcases h.2 with ⟨hv, h0⟩ | ⟨g', cap, cur, hv, hb, hh, hn, hx, hcur, htake⟩
  · injection hv with h1; cases h1
  · injection hv with h1 h2 h3
    injection h1 with h1
    injection h1 with h1
    subst h1 h3
    refine .inr ⟨g, c, cur, rfl, hb, hh, by omega, hx, hcur, ?_⟩
    have e : ints K (xs.take m) = (ints K xs).take m := by simp [ints, List.map_take]
    rw [e, ← htake, List.take_take]
    congr 1
    omega
theorem Rd.front {K : IntKind} {w : World} {a : Option Addr} {n m : Nat} {xs : List Int} (h : Rd K w a n xs) (hm : m ≤ n) : Rd K w a m (xs.take m) := by
  have hl := h.len
  refine ⟨⟨by simp [ints]; omega, fun h0 => ?_⟩, fun x hx => h.2 x (List.mem_of_mem_take hx)⟩
  obtain ⟨ad, e, hb, hc⟩ := h.1.2 (by omega)
  refine ⟨ad, e, hb, fun j u hu => hc j u ?_⟩
  have hj : j < m := by
    have := (List.getElem?_eq_some_iff.1 hu).1
    simp [ints] at this
    omega
  simp only [ints, List.getElem?_map, List.getElem?_take, if_pos hj] at hu ⊢
  exact hu
theorem Ow.prefix_ {K : IntKind} {E B : Nat} {w : World} {a : Option Addr} {n c m : Nat} {xs : List Int} (h : Ow K E B w a n c xs) (hm : m ≤ n) : Ow K E B w a m c (xs.take m) := by
  rcases Nat.eq_zero_or_pos n with h0 | h0
  · obtain rfl : m = n := by omega
    rw [List.take_of_length_le (by rw [h.len]; exact Nat.le_refl _)]
    exact h
  · obtain ⟨g, rfl, -, -⟩ := h.form h0
    exact h.front hm
end Go.G8
