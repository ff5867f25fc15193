/-
  A step of a walk: append of a string to bytes. Maps that the call owns, kept.
  Conditions: none.
-/
import Derived.Lib.AppendStr
import Derived.Maps.OwnSet
import Derived.Test.YtnajjofaijpciaaDoorBase
set_option linter.unusedVariables false
namespace Go.G8
open Go.RowKit
/-- 'append(out, s...)': out is owned, s is a string. -/
theorem wpList_pushStr2 {P : Program} (w : World) {ops : Array Oper} {rest : List Oper} {o : Oper} {act : Act} {Q : Exit → Act → World → Prop} (hgd : o.guard = none) (s x : Operand) (t u : TypeId)
    (ho : o.op = .call { callee := .builtin .append, args := #[s, x], argTypes := #[t, u] })
    (B : Nat) (E : TypeId) (i : TypeInfo) (ht : P.underlying t = some (.slice E)) (hu : P.underlying u = some .string) (hi : P.info? E = some i) (hz : i.zero = some (.int .u8 0)) (h1 : i.size = 1) (h2 : i.bytes = 1)
    (a : Option Addr) (n c : Nat) (xs : List Int) (b : ByteArray) (hs : act.eval s = .slice a n c) (hown : Ow .u8 E B w a n c xs) (hx : act.eval x = .string b)
    (hn : n + b.size ≤ 1000000000) (hB : B ≤ w.heap.size)
    (hK : ∀ a' c' w', Ow .u8 E B w' a' (n + b.size) c' (xs ++ b.data.toList.map (fun b => (b.toNat : Int))) → Below B w w' → wpList P ops Q rest (act.put o.dst (.slice a' (n + b.size) c')) w') :
    wpList P ops Q (o :: rest) act w := by
  refine Go.Lib.wpList_append_own_string _ hgd s x t u ho B E i ht hu hi hz h1 h2 _ n _ hs hown b hx (by unfold maxLen; omega) (by omega) hB ?_
  intro v' w' hown' hg _
  obtain ⟨a', c', rfl⟩ := own_slice hown'
  refine hK a' c' w' ?_ ?_
  · have e : ints .u8 (xs ++ b.data.toList.map (fun b => (b.toNat : Int))) = ints .u8 xs ++ Go.Lib.strCells b := by
      unfold ints Go.Lib.strCells
      rw [List.map_append, List.map_map]
      rfl
    unfold Ow
    rw [e]
    exact hown'
  · refine (Below.refl B w).grown hg hB ?_
    intro k hk
    exact (World.ownsRow.lt hown k hk).1
theorem own_below {P : Program} {k : TypeId} {R : Value → Option (DataW Unit × List MemPlace)} {b n B : Nat} {D : DataW Unit} {w w' : World} (h : w.ownsMap P k R b n D) (hb : Below B w w') (hlt : b < B) : w'.ownsMap P k R b n D := by
  obtain ⟨es, clock, hbk, F, hs, hD⟩ := h
  exact ⟨es, clock, (hb.block b hlt).trans hbk, F, hs, hD⟩
theorem plain_str {P : Program} {e : TypeId} (he : P.underlying e = some .string) {v : Value} {t : ByteArray} {ps : List MemPlace} (h : plainElem (H := Unit) P e v = some (.lit (.string t.data.toList), ps)) : v = .string t := by
  unfold plainElem at h
  rw [he] at h
  cases v with
  | string s =>
    simp only at h
    split at h
    · injection h with h
      injection h with h _
      injection h with h
      injection h with h
      congr 1
      apply ByteArray.ext
      exact Array.toList_inj.1 h
    · cases h
  | _ => simp at h
end Go.G8
