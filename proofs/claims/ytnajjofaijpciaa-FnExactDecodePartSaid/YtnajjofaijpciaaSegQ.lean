/-
  What reading segments answers, in plain words; lists of segments.
  Conditions: none.
-/
import Derived.Test.YtnajjofaijpciaaSegR
import Derived.Test.YtnajjofaijpciaaRowsV
set_option linter.unusedVariables false
namespace Go.Proofs.Ytnajjofaijpciaa
open Go.RowKit Go.G8
theorem gText_0 {m : Int} (h : 1 ≤ m ∧ m ≤ 4) : gText m 0 = 0 := by
  rcases mode_cases h with rfl | rfl | rfl | rfl <;> decide
theorem num_ge {xs : List Int} (h : ∀ x ∈ xs, x = 0 ∨ x = 1) (i k : Nat) : 0 ≤ num (bpart xs i k) :=
  (num_bd (bpart xs i k) (fun x hx => h x (List.mem_of_mem_drop (List.mem_of_mem_take hx)))).1
theorem segL_bd {xs : List Int} {m : Int} (h : 1 ≤ m ∧ m ≤ 4) (hx : ∀ x ∈ xs, x = 0 ∨ x = 1) (f : Nat) : ∀ (n at_ : Nat) (t : List Int) (nx : Nat), n ≤ f → segL xs m f n at_ = some (t, nx) → t.length = n ∧ (nx : Int) = at_ + gText m n ∧ ∀ x ∈ t, 0 ≤ x ∧ x ≤ 255 := by
  induction f with
  | zero =>
    intro n at_ t nx hn he
    obtain rfl : n = 0 := by omega
    rw [segL] at he
    injection he with he
    injection he with e1 e2
    subst e1 e2
    exact ⟨rfl, by rw [gText_0 h]; omega, fun x hx => by cases hx⟩
  | succ f ih =>
    intro n at_ t nx hn he
    by_cases h0 : n = 0
    · subst h0
      rw [segL, if_pos rfl] at he
      injection he with he
      injection he with e1 e2
      subst e1 e2
      exact ⟨rfl, by rw [gText_0 h]; omega, fun x hx => by cases hx⟩
    · obtain ⟨hT1, hT2, hT3⟩ := gTake_pos h (n := n) (by omega)
      obtain ⟨hS1, hS2, hS3, hS4⟩ := gText_step h (n := n) (by omega)
      obtain ⟨T, hT⟩ : ∃ T, gTake m n = T := ⟨_, rfl⟩
      rw [hT] at hT1 hT2 hT3 hS1 hS2 hS3 hS4
      obtain ⟨Wd, hWd⟩ : ∃ Wd : Nat, gWidth m T = (Wd : Int) := Int.eq_ofNat_of_zero_le (by omega)
      rw [segL_step (by omega) hT hWd rfl] at he
      by_cases hp : 0 < (gGroup m T (num (bpart xs at_ Wd))).2
      · rw [if_pos hp] at he
        cases he
      · rw [if_neg hp, Option.map_eq_some_iff] at he
        obtain ⟨⟨t1, n1⟩, hr, he⟩ := he
        injection he with e1 e2
        subst e1 e2
        obtain ⟨i1, i2, i3⟩ := ih _ _ _ _ (by omega) hr
        refine ⟨?_, ?_, ?_⟩
        · rw [List.length_append, gGroup_len, i1]
          omega
        · show (n1 : Int) = _
          rw [hS1, hWd, i2]
          omega
        · intro x hx'
          rcases List.mem_append.1 hx' with hx' | hx'
          · exact gGroup_bd h T (num_ge hx at_ Wd) x hx'
          · exact i3 x hx'
theorem rSeg_bd {xs : List Int} (hx : ∀ x ∈ xs, x = 0 ∨ x = 1) {at_ : Nat} {m : Int} {t : List Int} {nx : Nat} (he : rSeg xs at_ = some (m, t, nx)) :
    (1 ≤ m ∧ m ≤ 4) ∧ t.length ≤ 255 ∧ at_ + 11 ≤ nx ∧ nx ≤ xs.length ∧ ∀ x ∈ t, 0 ≤ x ∧ x ≤ 255 := by
  unfold rSeg at he
  by_cases hl : xs.length < at_ + 11
  · rw [if_pos hl] at he
    cases he
  · rw [if_neg hl] at he
    by_cases hc : 1 ≤ num (bpart xs at_ 3) ∧ num (bpart xs at_ 3) ≤ 4 ∧ num (bpart xs (at_ + 3) 8) ≠ 0 ∧ (at_ : Int) + gLen (num (bpart xs at_ 3)) (num (bpart xs (at_ + 3) 8)).toNat ≤ xs.length
    · rw [if_pos hc, Option.map_eq_some_iff] at he
      obtain ⟨⟨t1, n1⟩, hr, he⟩ := he
      injection he with e1 e2
      injection e2 with e2 e3
      obtain ⟨k0, k1⟩ := bpart_bd hx (at_ + 3) 8 (by omega)
      have hb := segL_bd ⟨hc.1, hc.2.1⟩ hx _ _ _ _ _ (Nat.le_refl _) hr
      have e2' : t1 = t := e2
      have e3' : n1 = nx := e3
      rw [e2', e3'] at hb
      obtain ⟨b1, b2, b3⟩ := hb
      have hg := gLen_bd ⟨hc.1, hc.2.1⟩ (n := (num (bpart xs (at_ + 3) 8)).toNat) (by omega)
      have hp : 0 ≤ gText (num (bpart xs at_ 3)) (num (bpart xs (at_ + 3) 8)).toNat := by
        have := (gText_step ⟨hc.1, hc.2.1⟩ (n := (num (bpart xs (at_ + 3) 8)).toNat) (by omega))
        omega
      have hc4 := hc.2.2.2
      unfold gText at b2 hp
      rw [← e1]
      exact ⟨⟨hc.1, hc.2.1⟩, by omega, by omega, by omega, b3⟩
    · rw [if_neg hc] at he
      cases he
structure SegV where
  md : Int
  tx : ByteArray
def sgC (p : SegV) : List Value := [.int .i64 p.md, .string p.tx]
/-- What the reading of segments answers: those read, and a code. -/
def segsL (xs : List Int) : Nat → Nat → Nat → List SegV → List SegV × Int
  | 0, _, _, acc => (acc, 0)
  | f + 1, at_, tot, acc =>
    if at_ + 3 ≤ xs.length ∧ num (bpart xs at_ 3) ≠ 0 then
      match rSeg xs at_ with
      | none => ([], 6)
      | some (m, t, nx) => if 400 < tot + t.length then ([], 3) else segsL xs f nx (tot + t.length) (acc ++ [⟨m, strOfNums t⟩])
    else (acc, 0)
theorem sflat {l : List SegV} {k j : Nat} {p : SegV} (h : l[k]? = some p) (hj : j < 2) : (l.flatMap sgC)[k * 2 + j]? = (sgC p)[j]? := by
  induction l generalizing k with
  | nil => simp at h
  | cons q l ih =>
    rw [List.flatMap_cons]
    have hp : (sgC q).length = 2 := rfl
    cases k with
    | zero =>
      obtain rfl : q = p := by simpa using h
      rw [List.getElem?_append_left (by omega)]
      simp
    | succ k =>
      rw [List.getElem?_append_right (by omega), hp, show (k + 1) * 2 + j - 2 = k * 2 + j by omega]
      exact ih (by simpa using h)
theorem sflat_len (l : List SegV) : (l.flatMap sgC).length = l.length * 2 := by
  induction l with
  | nil => rfl
  | cons p l ih => rw [List.flatMap_cons, List.length_append, ih, List.length_cons]; show 2 + _ = _; omega
/-- The segments of a list that is read. -/
def RdG (w : World) (a : Option Addr) (n : Nat) (l : List SegV) : Prop := RdV 2 w a n (l.flatMap sgC)
theorem RdG.len {w : World} {a : Option Addr} {n : Nat} {l : List SegV} (h : RdG w a n l) : l.length = n := by
  have := RdV.len h
  rw [sflat_len] at this
  omega
theorem RdG.to {w w' : World} {a : Option Addr} {n : Nat} {l : List SegV} (h : RdG w a n l) (hb : Below w.heap.size w w') : RdG w' a n l := RdV.to h hb
theorem RdG.at_ {w : World} {a : Option Addr} {n k : Nat} {l : List SegV} {p : SegV} (h : RdG w a n l) (hk : l[k]? = some p) :
    ∃ b o, a = some ⟨b, o, none⟩ ∧ b < w.heap.size ∧ w.cell? ⟨b, o + k * 2, none⟩ = some (.int .i64 p.md) ∧ w.cell? ⟨b, o + k * 2 + 1, none⟩ = some (.string p.tx) := by
  have hn := h.len
  have hk1 := (List.getElem?_eq_some_iff.1 hk).1
  obtain ⟨b, o, rfl, hb⟩ := RdV.form h (by omega) (by omega)
  have c := fun j (hj : j < 2) v (hv : (sgC p)[j]? = some v) => RdV.cell h (by omega) ((sflat hk hj).trans hv)
  exact ⟨b, o, rfl, hb, c 0 (by omega) _ rfl, c 1 (by omega) _ rfl⟩
def sumG (l : List SegV) : Nat := (l.map (·.tx.size)).sum
theorem sumG_snoc (l : List SegV) (p : SegV) : sumG (l ++ [p]) = sumG l + p.tx.size := by simp [sumG]
theorem strOfNums_size (l : List Int) : (strOfNums l).size = l.length := by simp [strOfNums, ByteArray.size]
/-- Bounds of what is read. -/
theorem segsL_bd {xs : List Int} (hx : ∀ x ∈ xs, x = 0 ∨ x = 1) (f : Nat) : ∀ (at_ tot : Nat) (acc : List SegV), sumG acc = tot → tot ≤ 400 → acc.length * 11 ≤ at_ → at_ ≤ xs.length →
    sumG (segsL xs f at_ tot acc).1 ≤ 400 ∧ (segsL xs f at_ tot acc).1.length * 11 ≤ xs.length ∧ 0 ≤ (segsL xs f at_ tot acc).2 ∧ (segsL xs f at_ tot acc).2 ≤ 6 := by
  induction f with
  | zero => intro at_ tot acc h1 h2 h3 h4; exact ⟨by show sumG acc ≤ 400; omega, by show acc.length * 11 ≤ xs.length; omega, by show (0 : Int) ≤ 0; omega, by show (0 : Int) ≤ 6; omega⟩
  | succ f ih =>
    intro at_ tot acc h1 h2 h3 h4
    rw [segsL]
    split
    · split
      · exact ⟨by decide, by simp, by decide, by decide⟩
      · rename_i m t nx hr
        obtain ⟨b1, b2, b3, b4, b5⟩ := rSeg_bd hx hr
        split
        · exact ⟨by decide, by simp, by decide, by decide⟩
        · exact ih _ _ _ (by rw [sumG_snoc, h1]; show tot + (strOfNums t).size = _; rw [strOfNums_size]) (by omega) (by simp; omega) b4
    · exact ⟨by show sumG acc ≤ 400; omega, by show acc.length * 11 ≤ xs.length; omega, by show (0 : Int) ≤ 0; omega, by show (0 : Int) ≤ 6; omega⟩
end Go.Proofs.Ytnajjofaijpciaa
