/-
  Appending to a row that is owned: the row stays in its block or moves to a new one; no program is named here.
  Conditions: none.
-/
import Derived.Test.YtnajjofaijpciaaDoorRowsV
set_option linter.unusedVariables false
namespace Go.G8
open Go.RowKit
theorem run_append_fresh {P : Program} (w : World) (base : Nat) (t ty e : TypeId) (i : TypeInfo) (z : Value) (size bytes : Nat) (ht : P.underlying t = some (.slice e)) (hi : P.info? e = some i) (hz : i.zero = some z)
    (hsize : i.size = size) (hby : i.bytes = bytes) (hzs : z.cells.size = size) (hsz : 0 < size)
    (v : Value) (n : Nat) (xs : List Value) (hown : w.ownsRow base e size v n xs)
    (a : Addr) (m c : Nat) (news : List Value) (hl : news.length = m * size) (hnews : ∀ j u, news[j]? = some u → w.cell? (a.add j) = some u) (h1 : ∀ u ∈ news, u.oneCell' = true) (hm : 0 < m)
    (h63 : n + m ≤ maxLen) (hbytes : (n + m) * bytes ≤ 140737488355328) (hbase : base ≤ w.heap.size) :
    ∃ v' w', (Builtin.append_ #[t, t] ty #[v, .slice (some a) m c]).run P w = .ok v' w' ∧ w'.ownsRow base e size v' (n + m) (xs ++ news) ∧ w.grownBy w' v.ownBlock ∧ (v'.ownBlock = v.ownBlock ∨ v'.ownBlock = some w.heap.size) := by
  obtain ⟨v', w', hr, h2, h3, -⟩ := run_append_own (P := P) w base t ty e i z size bytes ht hi hz hsize hby hzs hsz v n xs hown a m c news hl hnews h1 h63 hbytes hbase
  refine ⟨v', w', hr, h2, h3, ?_⟩
  subst hsize
  subst hby
  have hsmall : n + m ≤ 9223372036854775807 := by simp only [maxLen] at h63; omega
  rcases hown.2 with ⟨rfl, rfl⟩ | ⟨g, cap, cur, rfl, hbg, hg, hnc, hcm, hcs, htake⟩
  · have hr2 := run_append_nil (P := P) w t ty e i z ht hi hz a m c news hl hnews (by omega) (by omega) (by have hb := hbytes; simp only [Nat.zero_add] at hb; omega)
    rw [hr] at hr2
    injection hr2 with e1 e2
    rw [e1]
    exact .inr rfl
  · by_cases hroom : n + m ≤ cap
    · have hfit : n * i.size + news.length ≤ cur.size := by rw [hl, hcs, ← Nat.add_mul]; exact Nat.mul_le_mul_right _ hroom
      have hr2 := run_append_room (P := P) w t ty e i ht hi g n cap cur hg a m c news hl hnews h1 hroom hfit
      rw [hr] at hr2
      injection hr2 with e1 e2
      rw [e1]
      exact .inl rfl
    · have holds : ∀ j u, xs[j]? = some u → w.cell? ((⟨g, 0, none⟩ : Addr).add j) = some u := hown.cells (g := g) rfl
      have hr2 := run_append_grow (P := P) w t ty e i z ht hi hz ⟨g, 0, none⟩ n cap xs hown.1 holds a m c news hl hnews (by omega) (by omega) (growslice_fits (by omega) hbytes)
      rw [hr] at hr2
      injection hr2 with e1 e2
      rw [e1]
      exact .inr rfl
/-- 'append(out, y, ..)' with what is known of the new row's block. -/
theorem wpList_pushF {P : Program} (wr : World) {ops : Array Oper} {rest : List Oper} {o : Oper} {act : Act} {Q : Exit → Act → World → Prop} (hgd : o.guard = none) (s x : Operand) (t : TypeId)
    (ho : o.op = .call { callee := .builtin .append, args := #[s, x], argTypes := #[t, t] })
    (B : Nat) (E E' : TypeId) (i : TypeInfo) (z : Value) (sz bytes : Nat) (ht : P.underlying t = some (.slice E)) (hi : P.info? E = some i) (hz : i.zero = some z) (h1 : i.size = sz) (h2 : i.bytes = bytes) (hzs : z.cells.size = sz) (hsz : 0 < sz) (h8 : bytes ≤ 64)
    (a : Option Addr) (n c : Nat) (xs : List Value) (A : Array Value) (m : Nat) (hs : act.eval s = .slice a n c) (hown : OwV E sz B wr a n c xs) (hx : act.eval x = .slice (some ⟨wr.heap.size, 0, none⟩) m m) (hA : A.size = m * sz) (hone : ∀ u ∈ A.toList, u.oneCell' = true) (hm : 0 < m)
    (hn : n + m ≤ 1000000000) (hB : B ≤ wr.heap.size)
    (hK : ∀ a' c' w', OwV E sz B w' a' (n + m) c' (xs ++ A.toList) → (wr.alloc (.cells A E')).grownBy w' (blk a) → (blk a' = blk a ∨ blk a' = some (wr.heap.size + 1)) → wpList P ops Q rest (act.put o.dst (.slice a' (n + m) c')) w') :
    wpList P ops Q (o :: rest) act (wr.alloc (.cells A E')) := by
  refine wpList_plain hgd fun K' hK' => ?_
  obtain ⟨v', w', hr, r1, r2, r3⟩ := run_append_fresh (P := P) (wr.alloc (.cells A E')) B t o.type E i z sz bytes ht hi hz h1 h2 hzs hsz (.slice a n c) n xs (World.ownsRow.alloc hown _) ⟨wr.heap.size, 0, none⟩ m m A.toList (by simpa using hA) (by
    intro j u hj
    rw [Addr.add_lit, cell_of_row _ _ _ _ _ (0, 0) (heap_alloc_new wr _)]
    simpa using hj) hone hm (by unfold maxLen; omega) (by
    have : (n + m) * bytes ≤ (n + m) * 64 := Nat.mul_le_mul_left _ h8
    omega) (by simp; omega)
  obtain ⟨a', c', rfl⟩ := own_slice r1
  rw [ownBlock_slice] at r2 r3
  rw [ownBlock_slice] at r3
  have hfin := hK a' c' w' r1 r2 (by simpa using r3)
  unfold Oper.wp execOp
  simp only [ho, resolve, invoke, builtin, Sem.run_bind, Sem.run_pure, Result.andThen_ok, List.map_toArray, List.map_cons, List.map_nil, hs, hx, hr]
  exact hK' _ _ hfin
end Go.G8
