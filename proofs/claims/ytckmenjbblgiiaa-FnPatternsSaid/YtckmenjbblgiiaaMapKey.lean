/-
  Maps of any key of the kit's bundle, made by the call itself; no program is named here.
  Conditions: none.
-/
import Derived.Test.YtckmenjbblgiiaaBase
import Derived.Maps.OwnOps
import Derived.DeepKeys4
set_option linter.unusedVariables false
namespace Go.G8
open Go.RowKit Go.Maps Go.ChangeMaps Go.MapKept

/-- Block b of w is a map with these entries, in the order in which they came. -/
def TabV (w : World) (b : Nat) (L : List (Value × Value)) : Prop :=
  ∃ es clock, w.heap[b]? = some (.map es clock) ∧ es.toList.map (fun e => (e.key, e.val)) = L
section
variable {P : Program} {k e t : TypeId} {w w' : World} {b : Nat} {L : List (Value × Value)}
theorem TabV.made (w : World) : TabV (w.alloc (.map #[] 0)) w.heap.size [] := ⟨#[], 0, (MapKept.heap_alloc w _).1, rfl⟩
theorem TabV.lt (h : TabV w b L) : b < w.heap.size := by
  obtain ⟨es, clock, h1, h2⟩ := h
  exact (Array.getElem?_eq_some_iff.1 h1).1
theorem TabV.kept {row : Option Nat} (h : TabV w b L) (hg : w.grownBy w' row) (hne : some b ≠ row) : TabV w' b L := by
  have hb := h.lt
  obtain ⟨es, clock, h1, h2⟩ := h
  exact ⟨es, clock, (hg.block b hb hne).trans h1, h2⟩
theorem TabV.keep (h : TabV w b L) (hb : Below w.heap.size w w') : TabV w' b L := by
  have hlt := h.lt
  obtain ⟨es, clock, h1, h2⟩ := h
  exact ⟨es, clock, (hb.block b hlt).trans h1, h2⟩
theorem TabV.ent {es : List MapEntry} (h : es.map (fun e : MapEntry => (e.key, e.val)) = L) {x : MapEntry} (hx : x ∈ es) : (x.key, x.val) ∈ L := by
  rw [← h]; exact List.mem_map.2 ⟨x, hx, rfl⟩
theorem TabV.update (h : TabV w b L) (K : Keyed P k) (ht : P.underlying t = some (.map k e)) (hL : ∀ p ∈ L, ∃ l, keyOf P k p.1 = some l) {x : Value} {lx : Lit} (hx : keyOf P k x = some lx) (hne : ∀ p ∈ L, p.1 ≠ x) (v : Value) :
    ∃ w', (Instr.mapUpdate t (.map (some b)) x v).run P w = .ok () w' ∧ TabV w' b (L ++ [(x, v)]) ∧ w.grownBy w' (some b) := by
  obtain ⟨es, clock, hb, hes⟩ := h
  have hkeys : ∀ y ∈ es.toList, ∃ l, keyOf P k y.key = some l := fun y hy => hL _ (TabV.ent hes hy)
  rcases K.find w hx es.toList hkeys with ⟨h1, h2⟩ | ⟨j, e0, h1, h2, h3⟩
  · refine ⟨setBlock w b (.map (es.push ⟨x, v, clock⟩) (clock + 1)), ?_, ⟨es.push ⟨x, v, clock⟩, clock + 1, heap_setBlock_same hb _, by simp [hes]⟩, ⟨rfl, rfl, rfl, by simp [setBlock], fun i _ hi => heap_setBlock_other hb _ (fun e => hi (by rw [e]))⟩⟩
    simp [Instr.mapUpdate, run_underlying ht, MapKept.run_getObj_map hb, K.check w false hx, h1, MapKept.run_setObj_map _ hb, Result.andThen, setBlock]
  · exact absurd h3 (hne _ (TabV.ent hes (List.mem_of_getElem? h2)))
theorem TabV.no (h : TabV w b L) (K : Keyed P k) (ht : P.underlying t = some (.map k e)) (hL : ∀ p ∈ L, ∃ l, keyOf P k p.1 = some l) {x : Value} {lx : Lit} (hx : keyOf P k x = some lx) (hne : ∀ p ∈ L, p.1 ≠ x) {z : Value} (hz : (zeroValue e).run P w = .ok z w) (c : Bool) :
    (Instr.lookup t (.map (some b)) x c).run P w = .ok (if c then .tuple #[z, .bool false] else z) w := by
  obtain ⟨es, clock, hb, hes⟩ := h
  have hkeys : ∀ y ∈ es.toList, ∃ l, keyOf P k y.key = some l := fun y hy => hL _ (TabV.ent hes hy)
  rcases K.find w hx es.toList hkeys with ⟨h1, h2⟩ | ⟨j, e0, h1, h2, h3⟩
  · simp [Instr.lookup, run_underlying ht, MapKept.run_getObj_map hb, K.check w _ hx, h1, hz, Result.andThen]
  · exact absurd h3 (hne _ (TabV.ent hes (List.mem_of_getElem? h2)))
theorem TabV.yes (h : TabV w b L) (K : Keyed P k) (ht : P.underlying t = some (.map k e)) (hL : ∀ p ∈ L, ∃ l, keyOf P k p.1 = some l) {x v : Value} (hx : (x, v) ∈ L) (huniq : ∀ p ∈ L, p.1 = x → p.2 = v) (c : Bool) :
    (Instr.lookup t (.map (some b)) x c).run P w = .ok (if c then .tuple #[v, .bool true] else v) w := by
  obtain ⟨es, clock, hb, hes⟩ := h
  obtain ⟨lx, hlx⟩ := hL _ hx
  have hkeys : ∀ y ∈ es.toList, ∃ l, keyOf P k y.key = some l := fun y hy => hL _ (TabV.ent hes hy)
  rcases K.find w hlx es.toList hkeys with ⟨h1, h2⟩ | ⟨j, e0, h1, h2, h3⟩
  · exfalso
    rw [← hes] at hx
    obtain ⟨y, hy, e1⟩ := List.mem_map.1 hx
    injection e1 with e1 e2
    exact h2 y hy e1
  · have e4 : e0.val = v := huniq _ (TabV.ent hes (List.mem_of_getElem? h2)) h3
    simp [Instr.lookup, run_underlying ht, MapKept.run_getObj_map hb, K.check w _ hlx, h1, e4, Result.andThen]
end
/-- A store of a new key, at the operation. -/
theorem wpList_tabV {P : Program} {w : World} {ops : Array Oper} {rest : List Oper} {o : Oper} {a : Act} {Q : Exit → Act → World → Prop}
    (hg : o.guard = none) (m x v : Operand) (t : TypeId) (hop : o.op = Op.mapUpdate t m x v) (k e : TypeId) (K : Keyed P k) (ht : P.underlying t = some (.map k e)) (b : Nat) (L : List (Value × Value))
    (hm : a.eval m = .map (some b)) (hown : TabV w b L) (hL : ∀ p ∈ L, ∃ l, keyOf P k p.1 = some l) (key val : Value) (hx : a.eval x = key) (hv : a.eval v = val) {lx : Lit} (hkey : keyOf P k key = some lx) (hne : ∀ p ∈ L, p.1 ≠ key)
    (hK : ∀ w', TabV w' b (L ++ [(key, val)]) → w.grownBy w' (some b) → wpList P ops Q rest (a.put o.dst undef) w') :
    wpList P ops Q (o :: rest) a w := by
  refine wpList_plain hg fun K' hK' => ?_
  obtain ⟨w', hrun, r1, r2⟩ := hown.update K ht hL hkey hne val
  unfold Oper.wp
  simp [execOp, hop, hm, hx, hv, hrun, Result.andThen]
  exact hK' _ _ (hK w' r1 r2)
/-- An array of eight numbers is a key. -/
theorem key8 {P : Program} {k e : TypeId} (hk : P.underlying k = some (.array 8 e)) (he : P.underlying e = some (.int .i64)) (hc : P.cellsOf k = 8) (hce : P.cellsOf e = 1) (hkt : P.keyType k = true) (hsz : 1 ≤ P.types.size) (x0 x1 x2 x3 x4 x5 x6 x7 : Int)
    (h : ∀ x ∈ [x0, x1, x2, x3, x4, x5, x6, x7], fits .i64 x) : ∃ l, keyOf P k (.agg #[.int .i64 x0, .int .i64 x1, .int .i64 x2, .int .i64 x3, .int .i64 x4, .int .i64 x5, .int .i64 x6, .int .i64 x7]) = some l := by
  have hw : ∀ x, x ∈ [x0, x1, x2, x3, x4, x5, x6, x7] → (Lit.int .i64 x).wf = true := fun x hx => WalkArith.wf_i64 (h x hx)
  have w0 := hw x0 (by simp)
  have w1 := hw x1 (by simp)
  have w2 := hw x2 (by simp)
  have w3 := hw x3 (by simp)
  have w4 := hw x4 (by simp)
  have w5 := hw x5 (by simp)
  have w6 := hw x6 (by simp)
  have w7 := hw x7 (by simp)
  clear hw
  obtain ⟨d, hd⟩ : ∃ d, P.types.size + 1 = d + 2 := ⟨P.types.size - 1, by omega⟩
  have hf : (Value.agg #[.int .i64 x0, .int .i64 x1, .int .i64 x2, .int .i64 x3, .int .i64 x4, .int .i64 x5, .int .i64 x6, .int .i64 x7]).formed P k = true := by
    simp [Value.formed, hk, hc]
  have hl : ∃ l, P.keyLits (d + 2) k [.int .i64 x0, .int .i64 x1, .int .i64 x2, .int .i64 x3, .int .i64 x4, .int .i64 x5, .int .i64 x6, .int .i64 x7] = some l := by
    refine ⟨[.int .i64 x0, .int .i64 x1, .int .i64 x2, .int .i64 x3, .int .i64 x4, .int .i64 x5, .int .i64 x6, .int .i64 x7], ?_⟩
    simp [Program.keyLits, hk, he, hc, hce, List.range_succ, w0, w1, w2, w3, w4, w5, w6, w7]
  obtain ⟨l, hl⟩ := hl
  refine ⟨.string (keyBytes l), ?_⟩
  unfold keyOf
  rw [hk]
  simp only [hkt, hf, Bool.and_self, if_true, hd]
  have e1 : (Value.agg #[.int .i64 x0, .int .i64 x1, .int .i64 x2, .int .i64 x3, .int .i64 x4, .int .i64 x5, .int .i64 x6, .int .i64 x7]).cells.toList = [.int .i64 x0, .int .i64 x1, .int .i64 x2, .int .i64 x3, .int .i64 x4, .int .i64 x5, .int .i64 x6, .int .i64 x7] := by simp [Value.cells]
  rw [e1, hl]
  rfl
end Go.G8
