/-
  Texts of the proof, one behind the other: each bears its own heading.
  Conditions: as the headings say.
-/
import Derived.Test.YtnajjofaijpciaaMg1
import Derived.Test.YtnajjofaijpciaaSegR
import Derived.Test.YtnajjofaijpciaaMg14
/-
  Rows of elements of some cells each (structs), owned or read; no program is named here.
  Conditions: none.
-/
set_option linter.unusedVariables false
namespace Go.G8
open Go.RowKit

/-- A row of elements of sz cells each lies in a block of its own, from block B on. -/
def OwV (E : TypeId) (sz B : Nat) (w : World) (a : Option Addr) (n c : Nat) (xs : List Value) : Prop := w.ownsRow B E sz (.slice a n c) n xs
/-- The slice (a, n, ..) of elements of sz cells each reads as these cells. -/
def RdV (sz : Nat) (w : World) (a : Option Addr) (n : Nat) (xs : List Value) : Prop := Reads w w.heap.size sz a n xs
section
variable {w w' : World} {a : Option Addr} {n c B E sz : Nat} {xs : List Value}
theorem RdV.len (h : RdV sz w a n xs) : xs.length = n * sz := h.1
theorem RdV.to (h : RdV sz w a n xs) (hb : Below w.heap.size w w') : RdV sz w' a n xs := (h.below hb).more hb.size
theorem RdV.at_ (h : RdV sz w a n xs) {k i : Nat} (hk : k < n) (hi : i < sz) : ∃ b o v, a = some ⟨b, o, none⟩ ∧ b < w.heap.size ∧ w.cell? ⟨b, o + (k * sz + i), none⟩ = some v ∧ Hid (xs[k * sz + i]? = some v) := by
  obtain ⟨ad, rfl, hb, hc⟩ := h.2 (by omega)
  have hl := h.1
  have hks : k * sz + i < n * sz := by
    have : (k + 1) * sz ≤ n * sz := Nat.mul_le_mul_right _ hk
    rw [Nat.succ_mul] at this
    omega
  have h0 := hc 0 _ (List.getElem?_eq_getElem (show 0 < xs.length by omega))
  have hx : xs[k * sz + i]? = some xs[k * sz + i] := List.getElem?_eq_getElem (by omega)
  have hck := hc (k * sz + i) _ hx
  obtain ⟨b, o, spot⟩ := ad
  obtain rfl : spot = none := World.cell?_spot h0
  exact ⟨b, o, _, rfl, hb, by simpa [Addr.add_lit] using hck, hx⟩
theorem RdV.form (h : RdV sz w a n xs) (hn : 0 < n) (hs : 0 < sz) : ∃ b o, a = some ⟨b, o, none⟩ ∧ b < w.heap.size := by
  obtain ⟨b, o, v, rfl, hb, -⟩ := h.at_ (k := 0) (i := 0) hn hs
  exact ⟨b, o, rfl, hb⟩
theorem RdV.cell {b o : Nat} (h : RdV sz w (some ⟨b, o, none⟩) n xs) {j : Nat} {v : Value} (hn : 0 < n) (hv : xs[j]? = some v) : w.cell? ⟨b, o + j, none⟩ = some v := by
  obtain ⟨ad, e, hb, hc⟩ := h.2 hn
  injection e with e
  subst e
  simpa [Addr.add_lit] using hc j v hv
theorem OwV.rd (h : OwV E sz B w a n c xs) : RdV sz w a n xs := Reads.of_own h
theorem OwV.len (h : OwV E sz B w a n c xs) : xs.length = n * sz := h.1
theorem OwV.keep (h : OwV E sz B w a n c xs) (hb : Below w.heap.size w w') : OwV E sz B w' a n c xs := by
  refine World.ownsRow.kept (row := none) h ⟨hb.os, hb.tape, hb.output, hb.size, fun k hk _ => hb.block k hk⟩ ?_
  cases hv : (Value.slice a n c).ownBlock <;> simp
theorem OwV.lt (h : OwV E sz B w a n c xs) : ∀ g, blk a = some g → B ≤ g ∧ g < w.heap.size := by
  intro g hg
  exact World.ownsRow.lt h g (by rw [ownBlock_slice]; exact hg)
theorem OwV.more {B' : Nat} (h : OwV E sz B w a n c xs) (hB : B' ≤ B) : OwV E sz B' w a n c xs := by
  refine ⟨h.1, ?_⟩
  rcases h.2 with hn | ⟨g, cap, cur, hv, hbg, rest⟩
  · exact .inl hn
  · exact .inr ⟨g, cap, cur, hv, by omega, rest⟩
theorem OwV.cap (h : OwV E sz B w a n c xs) : n ≤ c ∧ c ≤ 9223372036854775807 := by
  rcases h.2 with ⟨hv, rfl⟩ | ⟨g, cap, cur, hv, _, _, hn, hm, _⟩
  · injection hv with _ _ h3; omega
  · injection hv with _ _ h3; subst h3; exact ⟨hn, hm⟩
theorem OwV.nil (w : World) (E sz B : Nat) : OwV E sz B w none 0 0 [] := World.ownsRow_nil _ _ _ _
theorem OwV.alloc (h : OwV E sz B w a n c xs) (o : Obj) : OwV E sz B (w.alloc o) a n c xs := World.ownsRow.alloc h o
theorem OwV.empty (E sz B : Nat) (w : World) (hB : B ≤ w.heap.size) : OwV E sz B (w.alloc (.cells #[] E)) (some ⟨w.heap.size, 0, none⟩) 0 0 [] := by
  have := World.ownsRow_lit (base := B) (e := E) (size := sz) w #[] 0 hB (by unfold maxLen; omega) (by simp)
  exact this
theorem OwV.form (h : OwV E sz B w a n c xs) (hn : 0 < n) : ∃ g, a = some ⟨g, 0, none⟩ ∧ B ≤ g ∧ g < w.heap.size := by
  obtain ⟨g, cap, hv, hb, hlt⟩ := World.ownsRow.form h hn
  have hA : a = some ⟨g, 0, none⟩ := by injection hv
  exact ⟨g, hA, hb, hlt⟩
theorem OwV.sep {a' : Option Addr} (h : OwV E sz B w a n c xs) (hg : w.grownBy w' (blk a')) (hne : Apart a a') : OwV E sz B w' a n c xs := by
  refine World.ownsRow.kept h hg ?_
  rw [ownBlock_slice]
  cases hv : blk a with
  | none => exact .inl rfl
  | some g => exact .inr (fun e => hne g hv e.symm)
theorem OwV.set_ {g : Nat} (h : OwV E sz B w (some ⟨g, 0, none⟩) n c xs) (j : Nat) (u : Value) : OwV E sz B (w.setCell ⟨g, j, none⟩ u) (some ⟨g, 0, none⟩) n c (xs.set j u) := (World.ownsRow.stored h j u).1
theorem OwV.cellAt {g j : Nat} {v : Value} (h : OwV E sz B w (some ⟨g, 0, none⟩) n c xs) (hv : xs[j]? = some v) : w.cell? ⟨g, j, none⟩ = some v := by
  have hl := h.len
  have hj : j < xs.length := (List.getElem?_eq_some_iff.1 hv).1
  rw [World.ownsRow.cellAt h j (by omega), hv]
theorem OwV.free {g : Nat} (h : OwV E sz B w (some ⟨g, 0, none⟩) n c xs) (j : Nat) : w.frozen? ⟨g, j, none⟩ = false := World.ownsRow.frozenAt h j
end
theorem apart_newV {E E' B n c m d sz sz' : Nat} {w w' : World} {a b : Option Addr} {xs ys : List Value} (h : OwV E sz B w a n c xs) (k : OwV E' sz' w.heap.size w' b m d ys) : Apart a b := fun g h1 h2 => by
  have := (h.lt g h1).2
  have := (k.lt g h2).1
  omega
theorem below_markV {E B n c sz : Nat} {w w' w0 : World} {a : Option Addr} {xs : List Value} (hb : Below B w0 w) (h : OwV E sz B w a n c xs) (hB : B ≤ w0.heap.size) (hg : w.grownBy w' (blk a)) : Below B w0 w' :=
  hb.grown hg (Nat.le_trans hB hb.size) (fun g e => (h.lt g e).1)
/-- The call hands back a list of structs in a block from B on. -/
def GrowV (E : TypeId) (sz B : Nat) (xs : List Value) (w : World) (e : Ending) (w' : World) : Prop :=
  ∃ a n c, e = .returned (.slice a n c) ∧ OwV E sz B w' a n c xs ∧ Below B w w'
/-- 'append(out, y, ..)': out is owned, the y lie in the new block that the walk has just made. -/
theorem wpList_pushV {P : Program} (wr : World) {ops : Array Oper} {rest : List Oper} {o : Oper} {act : Act} {Q : Exit → Act → World → Prop} (hgd : o.guard = none) (s x : Operand) (t : TypeId)
    (ho : o.op = .call { callee := .builtin .append, args := #[s, x], argTypes := #[t, t] })
    (B : Nat) (E E' : TypeId) (i : TypeInfo) (z : Value) (sz bytes : Nat) (ht : P.underlying t = some (.slice E)) (hi : P.info? E = some i) (hz : i.zero = some z) (h1 : i.size = sz) (h2 : i.bytes = bytes) (hzs : z.cells.size = sz) (hsz : 0 < sz) (h8 : bytes ≤ 64)
    (a : Option Addr) (n c : Nat) (xs : List Value) (A : Array Value) (m : Nat) (hs : act.eval s = .slice a n c) (hown : OwV E sz B wr a n c xs) (hx : act.eval x = .slice (some ⟨wr.heap.size, 0, none⟩) m m) (hA : A.size = m * sz) (hone : ∀ u ∈ A.toList, u.oneCell' = true)
    (hn : n + m ≤ 1000000000) (hB : B ≤ wr.heap.size)
    (hK : ∀ a' c' w', OwV E sz B w' a' (n + m) c' (xs ++ A.toList) → Below B wr w' → wpList P ops Q rest (act.put o.dst (.slice a' (n + m) c')) w') :
    wpList P ops Q (o :: rest) act (wr.alloc (.cells A E')) := by
  refine wpList_append_own _ hgd s x t ho B E i z sz bytes ht hi hz h1 h2 hzs hsz _ n _ hs (World.ownsRow.alloc hown _) ⟨wr.heap.size, 0, none⟩ m m A.toList hx (by simpa using hA) ?_ hone (by unfold maxLen; omega) ?_ (by simp; omega) ?_
  · intro j u hj
    rw [Addr.add_lit, cell_of_row _ _ _ _ _ (0, 0) (heap_alloc_new wr _)]
    simpa using hj
  · have : (n + m) * bytes ≤ (n + m) * 64 := Nat.mul_le_mul_left _ h8
    omega
  · intro v' w' hown' hg _
    obtain ⟨a', c', rfl⟩ := own_slice hown'
    refine hK a' c' w' hown' ?_
    refine ((Below.refl B wr).alloc hB _).grown hg (by simp; omega) ?_
    intro k hk
    exact (World.ownsRow.lt hown k hk).1
end Go.G8
/-
  What reading segments answers, in plain words; lists of segments.
  Conditions: none.
-/
set_option linter.unusedVariables false
namespace Go.Proofs.Ytnajjofaijpciaa
open Go.RowKit Go.G8
theorem gText_0 {m : Int} (h : 1 ≤ m ∧ m ≤ 4) : gText m 0 = 0 := by
  rcases mode_cases h with rfl | rfl | rfl | rfl <;> decide
theorem num_ge {xs : List Int} (h : ∀ x ∈ xs, x = 0 ∨ x = 1) (i k : Nat) : 0 ≤ num (bpart xs i k) :=
  (num_bd (bpart xs i k) (fun x hx => h x (List.mem_of_mem_drop (List.mem_of_mem_take hx)))).1
theorem segL_bd {xs : List Int} {m : Int} (h : 1 ≤ m ∧ m ≤ 4) (hx : ∀ x ∈ xs, x = 0 ∨ x = 1) (f : Nat) : ∀ (n at_ : Nat) (t : List Int) (nx : Nat), n ≤ f → segL xs m f n at_ = some (t, nx) → t.length = n ∧ (nx : Int) = at_ + gText m n ∧ ∀ x ∈ t, 0 ≤ x ∧ x ≤ 255 := by
  induction f with
  | zero =>
    intro n at_ t nx hn he
    obtain rfl : n = 0 := by omega
    rw [segL] at he
    injection he with he
    injection he with e1 e2
    subst e1 e2
    exact ⟨rfl, by rw [gText_0 h]; omega, fun x hx => by cases hx⟩
  | succ f ih =>
    intro n at_ t nx hn he
    by_cases h0 : n = 0
    · subst h0
      rw [segL, if_pos rfl] at he
      injection he with he
      injection he with e1 e2
      subst e1 e2
      exact ⟨rfl, by rw [gText_0 h]; omega, fun x hx => by cases hx⟩
    · obtain ⟨hT1, hT2, hT3⟩ := gTake_pos h (n := n) (by omega)
      obtain ⟨hS1, hS2, hS3, hS4⟩ := gText_step h (n := n) (by omega)
      obtain ⟨T, hT⟩ : ∃ T, gTake m n = T := ⟨_, rfl⟩
      rw [hT] at hT1 hT2 hT3 hS1 hS2 hS3 hS4
      obtain ⟨Wd, hWd⟩ : ∃ Wd : Nat, gWidth m T = (Wd : Int) := Int.eq_ofNat_of_zero_le (by omega)
      rw [segL_step (by omega) hT hWd rfl] at he
      by_cases hp : 0 < (gGroup m T (num (bpart xs at_ Wd))).2
      · rw [if_pos hp] at he
        cases he
      · rw [if_neg hp, Option.map_eq_some_iff] at he
        obtain ⟨⟨t1, n1⟩, hr, he⟩ := he
        injection he with e1 e2
        subst e1 e2
        obtain ⟨i1, i2, i3⟩ := ih _ _ _ _ (by omega) hr
        refine ⟨?_, ?_, ?_⟩
        · rw [List.length_append, gGroup_len, i1]
          omega
        · show (n1 : Int) = _
          rw [hS1, hWd, i2]
          omega
        · intro x hx'
          rcases List.mem_append.1 hx' with hx' | hx'
          · exact gGroup_bd h T (num_ge hx at_ Wd) x hx'
          · exact i3 x hx'
theorem rSeg_bd {xs : List Int} (hx : ∀ x ∈ xs, x = 0 ∨ x = 1) {at_ : Nat} {m : Int} {t : List Int} {nx : Nat} (he : rSeg xs at_ = some (m, t, nx)) :
    (1 ≤ m ∧ m ≤ 4) ∧ t.length ≤ 255 ∧ at_ + 11 ≤ nx ∧ nx ≤ xs.length ∧ ∀ x ∈ t, 0 ≤ x ∧ x ≤ 255 := by
  unfold rSeg at he
  by_cases hl : xs.length < at_ + 11
  · rw [if_pos hl] at he
    cases he
  · rw [if_neg hl] at he
    by_cases hc : 1 ≤ num (bpart xs at_ 3) ∧ num (bpart xs at_ 3) ≤ 4 ∧ num (bpart xs (at_ + 3) 8) ≠ 0 ∧ (at_ : Int) + gLen (num (bpart xs at_ 3)) (num (bpart xs (at_ + 3) 8)).toNat ≤ xs.length
    · rw [if_pos hc, Option.map_eq_some_iff] at he
      obtain ⟨⟨t1, n1⟩, hr, he⟩ := he
      injection he with e1 e2
      injection e2 with e2 e3
      obtain ⟨k0, k1⟩ := bpart_bd hx (at_ + 3) 8 (by omega)
      have hb := segL_bd ⟨hc.1, hc.2.1⟩ hx _ _ _ _ _ (Nat.le_refl _) hr
      have e2' : t1 = t := e2
      have e3' : n1 = nx := e3
      rw [e2', e3'] at hb
      obtain ⟨b1, b2, b3⟩ := hb
      have hg := gLen_bd ⟨hc.1, hc.2.1⟩ (n := (num (bpart xs (at_ + 3) 8)).toNat) (by omega)
      have hp : 0 ≤ gText (num (bpart xs at_ 3)) (num (bpart xs (at_ + 3) 8)).toNat := by
        have := (gText_step ⟨hc.1, hc.2.1⟩ (n := (num (bpart xs (at_ + 3) 8)).toNat) (by omega))
        omega
      have hc4 := hc.2.2.2
      unfold gText at b2 hp
      rw [← e1]
      exact ⟨⟨hc.1, hc.2.1⟩, by omega, by omega, by omega, b3⟩
    · rw [if_neg hc] at he
      cases he
structure SegV where
  md : Int
  tx : ByteArray
def sgC (p : SegV) : List Value := [.int .i64 p.md, .string p.tx]
/-- What the reading of segments answers: those read, and a code. -/
def segsL (xs : List Int) : Nat → Nat → Nat → List SegV → List SegV × Int
  | 0, _, _, acc => (acc, 0)
  | f + 1, at_, tot, acc =>
    if at_ + 3 ≤ xs.length ∧ num (bpart xs at_ 3) ≠ 0 then
      match rSeg xs at_ with
      | none => ([], 6)
      | some (m, t, nx) => if 400 < tot + t.length then ([], 3) else segsL xs f nx (tot + t.length) (acc ++ [⟨m, strOfNums t⟩])
    else (acc, 0)
theorem sflat {l : List SegV} {k j : Nat} {p : SegV} (h : l[k]? = some p) (hj : j < 2) : (l.flatMap sgC)[k * 2 + j]? = (sgC p)[j]? := by
  induction l generalizing k with
  | nil => simp at h
  | cons q l ih =>
    rw [List.flatMap_cons]
    have hp : (sgC q).length = 2 := rfl
    cases k with
    | zero =>
      obtain rfl : q = p := by simpa using h
      rw [List.getElem?_append_left (by omega)]
      simp
    | succ k =>
      rw [List.getElem?_append_right (by omega), hp, show (k + 1) * 2 + j - 2 = k * 2 + j by omega]
      exact ih (by simpa using h)
theorem sflat_len (l : List SegV) : (l.flatMap sgC).length = l.length * 2 := by
  induction l with
  | nil => rfl
  | cons p l ih => rw [List.flatMap_cons, List.length_append, ih, List.length_cons]; show 2 + _ = _; omega
/-- The segments of a list that is read. -/
def RdG (w : World) (a : Option Addr) (n : Nat) (l : List SegV) : Prop := RdV 2 w a n (l.flatMap sgC)
theorem RdG.len {w : World} {a : Option Addr} {n : Nat} {l : List SegV} (h : RdG w a n l) : l.length = n := by
  have := RdV.len h
  rw [sflat_len] at this
  omega
theorem RdG.to {w w' : World} {a : Option Addr} {n : Nat} {l : List SegV} (h : RdG w a n l) (hb : Below w.heap.size w w') : RdG w' a n l := RdV.to h hb
theorem RdG.at_ {w : World} {a : Option Addr} {n k : Nat} {l : List SegV} {p : SegV} (h : RdG w a n l) (hk : l[k]? = some p) :
    ∃ b o, a = some ⟨b, o, none⟩ ∧ b < w.heap.size ∧ w.cell? ⟨b, o + k * 2, none⟩ = some (.int .i64 p.md) ∧ w.cell? ⟨b, o + k * 2 + 1, none⟩ = some (.string p.tx) := by
  have hn := h.len
  have hk1 := (List.getElem?_eq_some_iff.1 hk).1
  obtain ⟨b, o, rfl, hb⟩ := RdV.form h (by omega) (by omega)
  have c := fun j (hj : j < 2) v (hv : (sgC p)[j]? = some v) => RdV.cell h (by omega) ((sflat hk hj).trans hv)
  exact ⟨b, o, rfl, hb, c 0 (by omega) _ rfl, c 1 (by omega) _ rfl⟩
def sumG (l : List SegV) : Nat := (l.map (·.tx.size)).sum
theorem sumG_snoc (l : List SegV) (p : SegV) : sumG (l ++ [p]) = sumG l + p.tx.size := by simp [sumG]
theorem strOfNums_size (l : List Int) : (strOfNums l).size = l.length := by simp [strOfNums, ByteArray.size]
/-- Bounds of what is read. -/
theorem segsL_bd {xs : List Int} (hx : ∀ x ∈ xs, x = 0 ∨ x = 1) (f : Nat) : ∀ (at_ tot : Nat) (acc : List SegV), sumG acc = tot → tot ≤ 400 → acc.length * 11 ≤ at_ → at_ ≤ xs.length →
    sumG (segsL xs f at_ tot acc).1 ≤ 400 ∧ (segsL xs f at_ tot acc).1.length * 11 ≤ xs.length ∧ 0 ≤ (segsL xs f at_ tot acc).2 ∧ (segsL xs f at_ tot acc).2 ≤ 6 := by
  induction f with
  | zero => intro at_ tot acc h1 h2 h3 h4; exact ⟨by show sumG acc ≤ 400; omega, by show acc.length * 11 ≤ xs.length; omega, by show (0 : Int) ≤ 0; omega, by show (0 : Int) ≤ 6; omega⟩
  | succ f ih =>
    intro at_ tot acc h1 h2 h3 h4
    rw [segsL]
    split
    · split
      · exact ⟨by decide, by simp, by decide, by decide⟩
      · rename_i m t nx hr
        obtain ⟨b1, b2, b3, b4, b5⟩ := rSeg_bd hx hr
        split
        · exact ⟨by decide, by simp, by decide, by decide⟩
        · exact ih _ _ _ (by rw [sumG_snoc, h1]; show tot + (strOfNums t).size = _; rw [strOfNums_size]) (by omega) (by simp; omega) b4
    · exact ⟨by show sumG acc ≤ 400; omega, by show acc.length * 11 ≤ xs.length; omega, by show (0 : Int) ≤ 0; omega, by show (0 : Int) ≤ 6; omega⟩
end Go.Proofs.Ytnajjofaijpciaa
/-
  Contracts of the program's modes: which there are, and widths of texts.
  Conditions: none.
-/
set_option linter.unusedVariables false
namespace Go.Proofs.Ytnajjofaijpciaa
open Go.RowKit Go.G8
theorem modeOf_1 (w : World) : Calls Try.prog 58 #[.int .i64 1] w (fun e w' => e = .returned (.tuple #[.iface 106 (.agg #[.string ⟨#[48, 49, 50, 51, 52, 53, 54, 55, 56, 57]⟩, .slice (some ⟨w.heap.size, 0, none⟩) 3 3]), .bool true]) ∧ Below w.heap.size w w' ∧ w.heap.size < w'.heap.size ∧ w'.cell? ⟨w.heap.size, 0, none⟩ = some (.int .i64 4) ∧ w'.cell? ⟨w.heap.size, 1, none⟩ = some (.int .i64 7) ∧ w'.cell? ⟨w.heap.size, 2, none⟩ = some (.int .i64 10)) := by
  go_enter Try.func58, Try.ntmps58
  go_wp2
  go_ret2
  refine ⟨rfl, Below.alloc (Below.refl _ _) (Nat.le_refl _) _, by simp, ?_, ?_, ?_⟩ <;> (rw [cell_of_row _ _ _ _ _ (0, 0) (heap_alloc_new w _)]; rfl)
theorem modeOf_2 (w : World) : Calls Try.prog 58 #[.int .i64 2] w (fun e w' => e = .returned (.tuple #[.iface 106 (.agg #[.string ⟨#[48, 49, 50, 51, 52, 53, 54, 55, 56, 57, 65, 66, 67, 68, 69, 70, 71, 72, 73, 74, 75, 76, 77, 78, 79, 80, 81, 82, 83, 84, 85, 86, 87, 88, 89, 90, 32, 33, 35, 38, 40, 41, 43, 45, 47]⟩, .slice (some ⟨w.heap.size, 0, none⟩) 2 2]), .bool true]) ∧ Below w.heap.size w w' ∧ w.heap.size < w'.heap.size ∧ w'.cell? ⟨w.heap.size, 0, none⟩ = some (.int .i64 6) ∧ w'.cell? ⟨w.heap.size, 1, none⟩ = some (.int .i64 11)) := by
  go_enter Try.func58, Try.ntmps58
  go_wp2
  go_ret2
  refine ⟨rfl, Below.alloc (Below.refl _ _) (Nat.le_refl _) _, by simp, ?_, ?_⟩ <;> (rw [cell_of_row _ _ _ _ _ (0, 0) (heap_alloc_new w _)]; rfl)
theorem modeOf_3 (w : World) : Calls Try.prog 58 #[.int .i64 3] w (fun e w' => e = .returned (.tuple #[.iface 106 (.agg #[.string ⟨#[97, 98, 99, 100, 101, 102, 103, 104, 105, 106, 107, 108, 109, 110, 111, 112, 113, 114, 115, 116, 117, 118, 119, 120, 121, 122, 32, 10, 44, 46, 39, 63]⟩, .slice (some ⟨w.heap.size, 0, none⟩) 1 1]), .bool true]) ∧ Below w.heap.size w w' ∧ w.heap.size < w'.heap.size ∧ w'.cell? ⟨w.heap.size, 0, none⟩ = some (.int .i64 5)) := by
  go_enter Try.func58, Try.ntmps58
  go_wp2
  go_ret2
  refine ⟨rfl, Below.alloc (Below.refl _ _) (Nat.le_refl _) _, by simp, ?_⟩ <;> (rw [cell_of_row _ _ _ _ _ (0, 0) (heap_alloc_new w _)]; rfl)
theorem modeOf_4 (w : World) : Calls Try.prog 58 #[.int .i64 4] w (RetS (.tuple #[.iface 108 (.agg #[]), .bool true]) w) := by
  go_enter Try.func58, Try.ntmps58
  go_wp2
  go_ret2
  exact ⟨rfl, rfl⟩
theorem modeOf_no (x : Int) (w : World) (h : ¬ (1 ≤ x ∧ x ≤ 4)) : Calls Try.prog 58 #[.int .i64 x] w (RetS (.tuple #[.iface 108 (.agg #[]), .bool false]) w) := by
  have h1 : (x == 1) = false := by rw [beq_eq_false_iff_ne]; omega
  have h2 : (x == 2) = false := by rw [beq_eq_false_iff_ne]; omega
  have h3 : (x == 3) = false := by rw [beq_eq_false_iff_ne]; omega
  have h4 : (x == 4) = false := by rw [beq_eq_false_iff_ne]; omega
  clear h
  go_enter Try.func58, Try.ntmps58
  go_wp2
  go_ret2
  exact ⟨rfl, rfl⟩
end Go.Proofs.Ytnajjofaijpciaa
