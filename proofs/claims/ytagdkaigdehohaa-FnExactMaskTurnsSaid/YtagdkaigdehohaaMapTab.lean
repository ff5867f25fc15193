/-
  Maps from numbers to whatever values, made by the call itself; no program is named here.
  Conditions: none.
-/
import Derived.Test.YtagdkaigdehohaaBase
import Derived.Maps.OwnOps
set_option linter.unusedVariables false
namespace Go.G8
open Go.RowKit Go.Maps Go.ChangeMaps Go.MapKept

/-- Block b of w is a map with these entries, in the order in which they came. -/
def Tab (w : World) (b : Nat) (L : List (Int × Value)) : Prop :=
  ∃ es clock, w.heap[b]? = some (.map es clock) ∧ es.toList.map (fun e => (e.key, e.val)) = L.map (fun p => (Value.int .i64 p.1, p.2))
section
variable {P : Program} {k e t : TypeId} {w w' : World} {b : Nat} {L : List (Int × Value)}
theorem Tab.made (w : World) : Tab (w.alloc (.map #[] 0)) w.heap.size [] := ⟨#[], 0, (MapKept.heap_alloc w _).1, rfl⟩
theorem Tab.kept {row : Option Nat} (h : Tab w b L) (hb : b < w.heap.size) (hg : w.grownBy w' row) (hne : some b ≠ row) : Tab w' b L := by
  obtain ⟨es, clock, h1, h2⟩ := h
  exact ⟨es, clock, (hg.block b hb hne).trans h1, h2⟩
theorem Tab.key {es : List MapEntry} (h : es.map (fun e : MapEntry => (e.key, e.val)) = L.map (fun p => (Value.int .i64 p.1, p.2))) {x : MapEntry} (hx : x ∈ es) : ∃ p ∈ L, x.key = .int .i64 p.1 ∧ x.val = p.2 := by
  have : (x.key, x.val) ∈ L.map (fun p => (Value.int .i64 p.1, p.2)) := by rw [← h]; exact List.mem_map.2 ⟨x, hx, rfl⟩
  obtain ⟨p, hp, e⟩ := List.mem_map.1 this
  injection e with e1 e2
  exact ⟨p, hp, e1.symm, e2.symm⟩
theorem fits_lit {x : Int} (h : -9223372036854775808 ≤ x ∧ x ≤ 9223372036854775807) : (Lit.int .i64 x).wf = true := WalkArith.wf_i64 h
theorem Tab.update (h : Tab w b L) (ht : P.underlying t = some (.map k e)) (hk : P.underlying k = some (.int .i64)) (hL : ∀ p ∈ L, fits .i64 p.1) {x : Int} (hx : fits .i64 x) (hne : ∀ p ∈ L, p.1 ≠ x) (v : Value) :
    ∃ w', (Instr.mapUpdate t (.map (some b)) (.int .i64 x) v).run P w = .ok () w' ∧ Tab w' b (L ++ [(x, v)]) ∧ w.grownBy w' (some b) := by
  obtain ⟨es, clock, hb, hes⟩ := h
  have K := int_keyed hk
  have hkey := keyOf_int_mk hk (fits_lit hx)
  have hkeys : ∀ y ∈ es.toList, ∃ l, keyOf P k y.key = some l := fun y hy => by
    obtain ⟨p, hp, e1, -⟩ := Tab.key hes hy
    exact ⟨_, by rw [e1]; exact keyOf_int_mk hk (fits_lit (hL p hp))⟩
  rcases K.find w hkey es.toList hkeys with ⟨h1, h2⟩ | ⟨j, e0, h1, h2, h3⟩
  · refine ⟨setBlock w b (.map (es.push ⟨.int .i64 x, v, clock⟩) (clock + 1)), ?_, ⟨es.push ⟨.int .i64 x, v, clock⟩, clock + 1, heap_setBlock_same hb _, by simp [hes]⟩, ⟨rfl, rfl, rfl, by simp [setBlock], fun i _ hi => heap_setBlock_other hb _ (fun e => hi (by rw [e]))⟩⟩
    simp [Instr.mapUpdate, run_underlying ht, MapKept.run_getObj_map hb, K.check w false hkey, h1, MapKept.run_setObj_map _ hb, Result.andThen, setBlock]
  · exfalso
    obtain ⟨p, hp, e1, -⟩ := Tab.key hes (List.mem_of_getElem? h2)
    rw [h3] at e1
    injection e1 with _ e1
    exact hne p hp e1.symm
theorem Tab.no (h : Tab w b L) (ht : P.underlying t = some (.map k e)) (hk : P.underlying k = some (.int .i64)) (hL : ∀ p ∈ L, fits .i64 p.1) {x : Int} (hx : fits .i64 x) (hne : ∀ p ∈ L, p.1 ≠ x) {z : Value} (hz : (zeroValue e).run P w = .ok z w) (c : Bool) :
    (Instr.lookup t (.map (some b)) (.int .i64 x) c).run P w = .ok (if c then .tuple #[z, .bool false] else z) w := by
  obtain ⟨es, clock, hb, hes⟩ := h
  have K := int_keyed hk
  have hkey := keyOf_int_mk hk (fits_lit hx)
  have hkeys : ∀ y ∈ es.toList, ∃ l, keyOf P k y.key = some l := fun y hy => by
    obtain ⟨p, hp, e1, -⟩ := Tab.key hes hy
    exact ⟨_, by rw [e1]; exact keyOf_int_mk hk (fits_lit (hL p hp))⟩
  rcases K.find w hkey es.toList hkeys with ⟨h1, h2⟩ | ⟨j, e0, h1, h2, h3⟩
  · simp [Instr.lookup, run_underlying ht, MapKept.run_getObj_map hb, K.check w _ hkey, h1, hz, Result.andThen]
  · exfalso
    obtain ⟨p, hp, e1, -⟩ := Tab.key hes (List.mem_of_getElem? h2)
    rw [h3] at e1
    injection e1 with _ e1
    exact hne p hp e1.symm
theorem Tab.yes (h : Tab w b L) (ht : P.underlying t = some (.map k e)) (hk : P.underlying k = some (.int .i64)) (hL : ∀ p ∈ L, fits .i64 p.1) {x : Int} {v : Value} (hx : (x, v) ∈ L) (huniq : ∀ p ∈ L, p.1 = x → p.2 = v) (c : Bool) :
    (Instr.lookup t (.map (some b)) (.int .i64 x) c).run P w = .ok (if c then .tuple #[v, .bool true] else v) w := by
  obtain ⟨es, clock, hb, hes⟩ := h
  have K := int_keyed hk
  have hkey := keyOf_int_mk hk (fits_lit (hL _ hx))
  have hkeys : ∀ y ∈ es.toList, ∃ l, keyOf P k y.key = some l := fun y hy => by
    obtain ⟨p, hp, e1, -⟩ := Tab.key hes hy
    exact ⟨_, by rw [e1]; exact keyOf_int_mk hk (fits_lit (hL p hp))⟩
  rcases K.find w hkey es.toList hkeys with ⟨h1, h2⟩ | ⟨j, e0, h1, h2, h3⟩
  · exfalso
    have : (Value.int .i64 x, v) ∈ es.toList.map (fun e => (e.key, e.val)) := by rw [hes]; exact List.mem_map.2 ⟨_, hx, rfl⟩
    obtain ⟨y, hy, e1⟩ := List.mem_map.1 this
    injection e1 with e1 e2
    exact h2 y hy e1
  · obtain ⟨p, hp, e1, e2⟩ := Tab.key hes (List.mem_of_getElem? h2)
    rw [h3] at e1
    injection e1 with _ e1
    have e3 := huniq p hp e1.symm
    have e4 : e0.val = v := e2.trans e3
    simp [Instr.lookup, run_underlying ht, MapKept.run_getObj_map hb, K.check w _ hkey, h1, e4, Result.andThen]
end
/-- A store of a new key, at the operation. -/
theorem wpList_tab {P : Program} {w : World} {ops : Array Oper} {rest : List Oper} {o : Oper} {a : Act} {Q : Exit → Act → World → Prop}
    (hg : o.guard = none) (m x v : Operand) (t : TypeId) (hop : o.op = Op.mapUpdate t m x v) (k e : TypeId) (ht : P.underlying t = some (.map k e)) (hk : P.underlying k = some (.int .i64)) (b : Nat) (L : List (Int × Value))
    (hm : a.eval m = .map (some b)) (hown : Tab w b L) (hL : ∀ p ∈ L, fits .i64 p.1) (key : Int) (val : Value) (hx : a.eval x = .int .i64 key) (hv : a.eval v = val) (hfx : fits .i64 key) (hne : ∀ p ∈ L, p.1 ≠ key)
    (hK : ∀ w', Tab w' b (L ++ [(key, val)]) → w.grownBy w' (some b) → wpList P ops Q rest (a.put o.dst undef) w') :
    wpList P ops Q (o :: rest) a w := by
  refine wpList_plain hg fun K' hK' => ?_
  obtain ⟨w', hrun, r1, r2⟩ := hown.update ht hk hL hfx hne val
  unfold Oper.wp
  simp [execOp, hop, hm, hx, hv, hrun, Result.andThen]
  exact hK' _ _ (hK w' r1 r2)
/-- A look-up whose run is told, at the operation. -/
theorem wpList_look {P : Program} {w : World} {ops : Array Oper} {rest : List Oper} {o : Oper} {a : Act} {Q : Exit → Act → World → Prop}
    (hg : o.guard = none) (m x : Operand) (t : TypeId) (c : Bool) (hop : o.op = Op.lookup t m x c) (mv key res : Value) (hm : a.eval m = mv) (hx : a.eval x = key) (hrun : (Instr.lookup t mv key c).run P w = .ok res w)
    (hK : wpList P ops Q rest (a.put o.dst res) w) : wpList P ops Q (o :: rest) a w := by
  refine wpList_plain hg fun K' hK' => ?_
  unfold Oper.wp
  simp [execOp, hop, hm, hx, hrun, Result.andThen]
  exact hK' _ _ hK
end Go.G8
