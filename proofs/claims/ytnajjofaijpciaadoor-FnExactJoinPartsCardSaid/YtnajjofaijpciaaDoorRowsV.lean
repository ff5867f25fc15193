/-
  Rows of elements of some cells each (structs), owned or read; no program is named here.
  Conditions: none.
-/
import Derived.Test.YtnajjofaijpciaaDoorBase
set_option linter.unusedVariables false
namespace Go.G8
open Go.RowKit

/-- A row of elements of sz cells each lies in a block of its own, from block B on. -/
def OwV (E : TypeId) (sz B : Nat) (w : World) (a : Option Addr) (n c : Nat) (xs : List Value) : Prop := w.ownsRow B E sz (.slice a n c) n xs
/-- The slice (a, n, ..) of elements of sz cells each reads as these cells. -/
def RdV (sz : Nat) (w : World) (a : Option Addr) (n : Nat) (xs : List Value) : Prop := Reads w w.heap.size sz a n xs
section
variable {w w' : World} {a : Option Addr} {n c B E sz : Nat} {xs : List Value}
theorem RdV.len (h : RdV sz w a n xs) : xs.length = n * sz := h.1
theorem RdV.to (h : RdV sz w a n xs) (hb : Below w.heap.size w w') : RdV sz w' a n xs := (h.below hb).more hb.size
theorem RdV.at_ (h : RdV sz w a n xs) {k i : Nat} (hk : k < n) (hi : i < sz) : ∃ b o v, a = some ⟨b, o, none⟩ ∧ b < w.heap.size ∧ w.cell? ⟨b, o + (k * sz + i), none⟩ = some v ∧ Hid (xs[k * sz + i]? = some v) := by
  obtain ⟨ad, rfl, hb, hc⟩ := h.2 (by omega)
  have hl := h.1
  have hks : k * sz + i < n * sz := by
    have : (k + 1) * sz ≤ n * sz := Nat.mul_le_mul_right _ hk
    rw [Nat.succ_mul] at this
    omega
  have h0 := hc 0 _ (List.getElem?_eq_getElem (show 0 < xs.length by omega))
  have hx : xs[k * sz + i]? = some xs[k * sz + i] := List.getElem?_eq_getElem (by omega)
  have hck := hc (k * sz + i) _ hx
  obtain ⟨b, o, spot⟩ := ad
  obtain rfl : spot = none := World.cell?_spot h0
  exact ⟨b, o, _, rfl, hb, by simpa [Addr.add_lit] using hck, hx⟩
theorem RdV.form (h : RdV sz w a n xs) (hn : 0 < n) (hs : 0 < sz) : ∃ b o, a = some ⟨b, o, none⟩ ∧ b < w.heap.size := by
  obtain ⟨b, o, v, rfl, hb, -⟩ := h.at_ (k := 0) (i := 0) hn hs
  exact ⟨b, o, rfl, hb⟩
theorem RdV.cell {b o : Nat} (h : RdV sz w (some ⟨b, o, none⟩) n xs) {j : Nat} {v : Value} (hn : 0 < n) (hv : xs[j]? = some v) : w.cell? ⟨b, o + j, none⟩ = some v := by
  obtain ⟨ad, e, hb, hc⟩ := h.2 hn
  injection e with e
  subst e
  simpa [Addr.add_lit] using hc j v hv
theorem OwV.rd (h : OwV E sz B w a n c xs) : RdV sz w a n xs := Reads.of_own h
theorem OwV.len (h : OwV E sz B w a n c xs) : xs.length = n * sz := h.1
theorem OwV.keep (h : OwV E sz B w a n c xs) (hb : Below w.heap.size w w') : OwV E sz B w' a n c xs := by
  refine World.ownsRow.kept (row := none) h ⟨hb.os, hb.tape, hb.output, hb.size, fun k hk _ => hb.block k hk⟩ ?_
  cases hv : (Value.slice a n c).ownBlock <;> simp
theorem OwV.lt (h : OwV E sz B w a n c xs) : ∀ g, blk a = some g → B ≤ g ∧ g < w.heap.size := by
  intro g hg
  exact World.ownsRow.lt h g (by rw [ownBlock_slice]; exact hg)
theorem OwV.more {B' : Nat} (h : OwV E sz B w a n c xs) (hB : B' ≤ B) : OwV E sz B' w a n c xs := by
  refine ⟨h.1, ?_⟩
  rcases h.2 with hn | ⟨g, cap, cur, hv, hbg, rest⟩
  · exact .inl hn
  · exact .inr ⟨g, cap, cur, hv, by omega, rest⟩
theorem OwV.cap (h : OwV E sz B w a n c xs) : n ≤ c ∧ c ≤ 9223372036854775807 := by
  rcases h.2 with ⟨hv, rfl⟩ | ⟨g, cap, cur, hv, _, _, hn, hm, _⟩
  · injection hv with _ _ h3; omega
  · injection hv with _ _ h3; subst h3; exact ⟨hn, hm⟩
theorem OwV.nil (w : World) (E sz B : Nat) : OwV E sz B w none 0 0 [] := World.ownsRow_nil _ _ _ _
theorem OwV.alloc (h : OwV E sz B w a n c xs) (o : Obj) : OwV E sz B (w.alloc o) a n c xs := World.ownsRow.alloc h o
theorem OwV.empty (E sz B : Nat) (w : World) (hB : B ≤ w.heap.size) : OwV E sz B (w.alloc (.cells #[] E)) (some ⟨w.heap.size, 0, none⟩) 0 0 [] := by
  have := World.ownsRow_lit (base := B) (e := E) (size := sz) w #[] 0 hB (by unfold maxLen; omega) (by simp)
  exact this
theorem OwV.form (h : OwV E sz B w a n c xs) (hn : 0 < n) : ∃ g, a = some ⟨g, 0, none⟩ ∧ B ≤ g ∧ g < w.heap.size := by
  obtain ⟨g, cap, hv, hb, hlt⟩ := World.ownsRow.form h hn
  have hA : a = some ⟨g, 0, none⟩ := by injection hv
  exact ⟨g, hA, hb, hlt⟩
theorem OwV.sep {a' : Option Addr} (h : OwV E sz B w a n c xs) (hg : w.grownBy w' (blk a')) (hne : Apart a a') : OwV E sz B w' a n c xs := by
  refine World.ownsRow.kept h hg ?_
  rw [ownBlock_slice]
  cases hv : blk a with
  | none => exact .inl rfl
  | some g => exact .inr (fun e => hne g hv e.symm)
theorem OwV.set_ {g : Nat} (h : OwV E sz B w (some ⟨g, 0, none⟩) n c xs) (j : Nat) (u : Value) : OwV E sz B (w.setCell ⟨g, j, none⟩ u) (some ⟨g, 0, none⟩) n c (xs.set j u) := (World.ownsRow.stored h j u).1
theorem OwV.cellAt {g j : Nat} {v : Value} (h : OwV E sz B w (some ⟨g, 0, none⟩) n c xs) (hv : xs[j]? = some v) : w.cell? ⟨g, j, none⟩ = some v := by
  have hl := h.len
  have hj : j < xs.length := (List.getElem?_eq_some_iff.1 hv).1
  rw [World.ownsRow.cellAt h j (by omega), hv]
theorem OwV.free {g : Nat} (h : OwV E sz B w (some ⟨g, 0, none⟩) n c xs) (j : Nat) : w.frozen? ⟨g, j, none⟩ = false := World.ownsRow.frozenAt h j
end
theorem apart_newV {E E' B n c m d sz sz' : Nat} {w w' : World} {a b : Option Addr} {xs ys : List Value} (h : OwV E sz B w a n c xs) (k : OwV E' sz' w.heap.size w' b m d ys) : Apart a b := fun g h1 h2 => by
  have := (h.lt g h1).2
  have := (k.lt g h2).1
  omega
theorem below_markV {E B n c sz : Nat} {w w' w0 : World} {a : Option Addr} {xs : List Value} (hb : Below B w0 w) (h : OwV E sz B w a n c xs) (hB : B ≤ w0.heap.size) (hg : w.grownBy w' (blk a)) : Below B w0 w' :=
  hb.grown hg (Nat.le_trans hB hb.size) (fun g e => (h.lt g e).1)
/-- The call hands back a list of structs in a block from B on. -/
def GrowV (E : TypeId) (sz B : Nat) (xs : List Value) (w : World) (e : Ending) (w' : World) : Prop :=
  ∃ a n c, e = .returned (.slice a n c) ∧ OwV E sz B w' a n c xs ∧ Below B w w'
/-- 'append(out, y, ..)': out is owned, the y lie in the new block that the walk has just made. -/
theorem wpList_pushV {P : Program} (wr : World) {ops : Array Oper} {rest : List Oper} {o : Oper} {act : Act} {Q : Exit → Act → World → Prop} (hgd : o.guard = none) (s x : Operand) (t : TypeId)
    (ho : o.op = .call { callee := .builtin .append, args := #[s, x], argTypes := #[t, t] })
    (B : Nat) (E E' : TypeId) (i : TypeInfo) (z : Value) (sz bytes : Nat) (ht : P.underlying t = some (.slice E)) (hi : P.info? E = some i) (hz : i.zero = some z) (h1 : i.size = sz) (h2 : i.bytes = bytes) (hzs : z.cells.size = sz) (hsz : 0 < sz) (h8 : bytes ≤ 64)
    (a : Option Addr) (n c : Nat) (xs : List Value) (A : Array Value) (m : Nat) (hs : act.eval s = .slice a n c) (hown : OwV E sz B wr a n c xs) (hx : act.eval x = .slice (some ⟨wr.heap.size, 0, none⟩) m m) (hA : A.size = m * sz) (hone : ∀ u ∈ A.toList, u.oneCell' = true)
    (hn : n + m ≤ 1000000000) (hB : B ≤ wr.heap.size)
    (hK : ∀ a' c' w', OwV E sz B w' a' (n + m) c' (xs ++ A.toList) → Below B wr w' → wpList P ops Q rest (act.put o.dst (.slice a' (n + m) c')) w') :
    wpList P ops Q (o :: rest) act (wr.alloc (.cells A E')) := by
  refine wpList_append_own _ hgd s x t ho B E i z sz bytes ht hi hz h1 h2 hzs hsz _ n _ hs (World.ownsRow.alloc hown _) ⟨wr.heap.size, 0, none⟩ m m A.toList hx (by simpa using hA) ?_ hone (by unfold maxLen; omega) ?_ (by simp; omega) ?_
  · intro j u hj
    rw [Addr.add_lit, cell_of_row _ _ _ _ _ (0, 0) (heap_alloc_new wr _)]
    simpa using hj
  · have : (n + m) * bytes ≤ (n + m) * 64 := Nat.mul_le_mul_left _ h8
    omega
  · intro v' w' hown' hg _
    obtain ⟨a', c', rfl⟩ := own_slice hown'
    refine hK a' c' w' hown' ?_
    refine ((Below.refl B wr).alloc hB _).grown hg (by simp; omega) ?_
    intro k hk
    exact (World.ownsRow.lt hown k hk).1
end Go.G8
