/-
  Contracts: the library of families, by the program.
  Conditions: none.
-/
import Derived.Test.YtckmenjbblgiiaaOnceB
import Derived.Test.YtckmenjbblgiiaaFamC
import Derived.Test.YtckmenjbblgiiaaRowsF
import Derived.Deep.RegionLaw
set_option linter.unusedVariables false
namespace Go.Proofs.Ytckmenjbblgiiaa
open Go.RowKit Go.G8
theorem info_family : (Try.prog.info? 57).map (fun i => (i.zero, i.size, i.bytes)) = some (some (.agg #[.string ⟨#[]⟩, .int .i64 0, .int .i64 0, .int .i64 0, .int .i64 0, .slice none 0 0, .int .i64 0, .slice none 0 0]), 8, 104) := by kernel_rfl
/-- A family of the library, and where its two lists lie. -/
structure FamV where
  nm : ByteArray
  kd : Int
  sz : Int
  co : Int
  xs : List Int
  ys : List Int
structure FamD where
  a : Option Addr
  c : Nat
  b : Option Addr
  d : Nat
def famCs (q : FamV × FamD) : List Value := [.string q.1.nm, .int .i64 q.1.kd, .int .i64 (rFieldOf q.1.sz).1.1, .int .i64 (rFieldOf q.1.sz).1.2.1, .int .i64 (rFieldOf q.1.sz).1.2.2, .slice q.2.a q.1.xs.length q.2.c, .int .i64 q.1.co, .slice q.2.b q.1.ys.length q.2.d]
def RowOK (D : Nat) (w : World) (q : FamV × FamD) : Prop :=
  Ow .i64 2 D w q.2.a q.1.xs.length q.2.c q.1.xs ∧ Ow .i64 2 D w q.2.b q.1.ys.length q.2.d q.1.ys ∧ Apart q.2.a q.2.b
def Far (p q : FamV × FamD) : Prop := Apart p.2.a q.2.a ∧ Apart p.2.a q.2.b ∧ Apart p.2.b q.2.a ∧ Apart p.2.b q.2.b
/-- A list of families in rows of its own, from block D on. -/
def LibAt (D : Nat) (w : World) (a : Option Addr) (c : Nat) (l : List (FamV × FamD)) : Prop :=
  OwV 57 8 D w a l.length c (l.flatMap famCs) ∧ (∀ q ∈ l, RowOK D w q ∧ Apart q.2.a a ∧ Apart q.2.b a) ∧ l.Pairwise Far
theorem rowOK_keep {D : Nat} {w w' : World} {q : FamV × FamD} (h : RowOK D w q) (hb : Below w.heap.size w w') : RowOK D w' q := ⟨h.1.keep hb, h.2.1.keep hb, h.2.2⟩
theorem rowOK_sep {D : Nat} {w w' : World} {q : FamV × FamD} {a : Option Addr} (h : RowOK D w q) (h1 : Apart q.2.a a) (h2 : Apart q.2.b a) (hg : w.grownBy w' (blk a)) : RowOK D w' q :=
  ⟨h.1.sep hg (fun g e => fun e2 => h1 g e e2), h.2.1.sep hg (fun g e => fun e2 => h2 g e e2), h.2.2⟩
theorem rowOK_kept {D b : Nat} {w w' : World} {q : FamV × FamD} (h : RowOK D w q) (hg : w.grownBy w' (some b)) (hb : b < D) : RowOK D w' q :=
  ⟨h.1.kept hg (fun g e => by injection e; omega), h.2.1.kept hg (fun g e => by injection e; omega), h.2.2⟩
theorem libAt_keep {D : Nat} {w w' : World} {a : Option Addr} {c : Nat} {l : List (FamV × FamD)} (h : LibAt D w a c l) (hb : Below w.heap.size w w') : LibAt D w' a c l :=
  ⟨h.1.keep hb, fun q hq => ⟨rowOK_keep (h.2.1 q hq).1 hb, (h.2.1 q hq).2⟩, h.2.2⟩
theorem owV_kept {E sz D n c b : Nat} {w w' : World} {a : Option Addr} {xs : List Value} (h : OwV E sz D w a n c xs) (hg : w.grownBy w' (some b)) (hb : b < D) : OwV E sz D w' a n c xs :=
  h.sep (a' := some ⟨b, 0, none⟩) hg (fun g g1 g2 => by have := (h.lt g g1).1; simp [blk] at g2; omega)
theorem libAt_kept {D b : Nat} {w w' : World} {a : Option Addr} {c : Nat} {l : List (FamV × FamD)} (h : LibAt D w a c l) (hg : w.grownBy w' (some b)) (hb : b < D) : LibAt D w' a c l :=
  ⟨owV_kept h.1 hg hb, fun q hq => ⟨rowOK_kept (h.2.1 q hq).1 hg hb, (h.2.1 q hq).2⟩, h.2.2⟩
/-- One more family: the list stays in its block or moves to a new one. -/
theorem libAt_push {D E' : Nat} {w w' : World} {a a' : Option Addr} {c c' : Nat} {l : List (FamV × FamD)} {q : FamV × FamD} {A : Array Value} (h : LibAt D w a c l) (hD : D ≤ w.heap.size) (hq : RowOK D w q) (h1 : Apart q.2.a a) (h2 : Apart q.2.b a) (hf : ∀ p ∈ l, Far p q)
    (ho : OwV 57 8 D w' a' (l.length + 1) c' (l.flatMap famCs ++ famCs q)) (hg : (w.alloc (.cells A E')).grownBy w' (blk a)) (hbl : blk a' = blk a ∨ blk a' = some (w.heap.size + 1)) : LibAt D w' a' c' (l ++ [q]) := by
  have hal := Below.alloc (Below.refl w.heap.size w) (Nat.le_refl _) (.cells A E')
  have hap : ∀ r : Option Addr, ∀ n c xs, Ow .i64 2 D w r n c xs → Apart r a → Apart r a' := fun r n c xs hr har g g1 g2 => by
    rcases hbl with e | e
    · exact har g g1 (by rw [← e]; exact g2)
    · rw [e] at g2
      injection g2 with g2
      have := (hr.lt g g1).2
      omega
  refine ⟨?_, fun p hp => ?_, ?_⟩
  · rw [List.length_append, List.flatMap_append]
    simpa using ho
  · rcases List.mem_append.1 hp with hp | hp
    · obtain ⟨k1, k2, k3⟩ := h.2.1 p hp
      exact ⟨rowOK_sep (rowOK_keep k1 hal) k2 k3 hg, hap _ _ _ _ k1.1 k2, hap _ _ _ _ k1.2.1 k3⟩
    · rw [List.mem_singleton.1 hp]
      exact ⟨rowOK_sep (rowOK_keep hq hal) h1 h2 hg, hap _ _ _ _ hq.1 h1, hap _ _ _ _ hq.2.1 h2⟩
  · rw [List.pairwise_append]
    exact ⟨h.2.2, List.pairwise_singleton _ _, fun p hp r hr => by rw [List.mem_singleton.1 hr]; exact hf p hp⟩
/-- 'append(out, y, ..)' for elements of up to 1000 bytes. -/
theorem wpList_pushG {P : Program} (wr : World) {ops : Array Oper} {rest : List Oper} {o : Oper} {act : Act} {Q : Exit → Act → World → Prop} (hgd : o.guard = none) (s x : Operand) (t : TypeId)
    (ho : o.op = .call { callee := .builtin .append, args := #[s, x], argTypes := #[t, t] })
    (B : Nat) (E E' : TypeId) (i : TypeInfo) (z : Value) (sz bytes : Nat) (ht : P.underlying t = some (.slice E)) (hi : P.info? E = some i) (hz : i.zero = some z) (h1 : i.size = sz) (h2 : i.bytes = bytes) (hzs : z.cells.size = sz) (hsz : 0 < sz) (h8 : bytes ≤ 1000)
    (a : Option Addr) (n c : Nat) (xs : List Value) (A : Array Value) (m : Nat) (hs : act.eval s = .slice a n c) (hown : OwV E sz B wr a n c xs) (hx : act.eval x = .slice (some ⟨wr.heap.size, 0, none⟩) m m) (hA : A.size = m * sz) (hone : ∀ u ∈ A.toList, u.oneCell' = true) (hm : 0 < m)
    (hn : n + m ≤ 1000000) (hB : B ≤ wr.heap.size)
    (hK : ∀ a' c' w', OwV E sz B w' a' (n + m) c' (xs ++ A.toList) → (wr.alloc (.cells A E')).grownBy w' (blk a) → (blk a' = blk a ∨ blk a' = some (wr.heap.size + 1)) → wpList P ops Q rest (act.put o.dst (.slice a' (n + m) c')) w') :
    wpList P ops Q (o :: rest) act (wr.alloc (.cells A E')) := by
  refine wpList_plain hgd fun K' hK' => ?_
  obtain ⟨v', w', hr, r1, r2, r3⟩ := run_append_fresh (P := P) (wr.alloc (.cells A E')) B t o.type E i z sz bytes ht hi hz h1 h2 hzs hsz (.slice a n c) n xs (World.ownsRow.alloc hown _) ⟨wr.heap.size, 0, none⟩ m m A.toList (by simpa using hA) (by
    intro j u hj
    rw [Addr.add_lit, cell_of_row _ _ _ _ _ (0, 0) (heap_alloc_new wr _)]
    simpa using hj) hone hm (by unfold maxLen; omega) (by
    have : (n + m) * bytes ≤ (n + m) * 1000 := Nat.mul_le_mul_left _ h8
    omega) (by simp; omega)
  obtain ⟨a', c', rfl⟩ := own_slice r1
  rw [ownBlock_slice] at r2 r3
  rw [ownBlock_slice] at r3
  have hfin := hK a' c' w' r1 r2 (by simpa using r3)
  unfold Oper.wp execOp
  simp only [ho, resolve, invoke, builtin, Sem.run_bind, Sem.run_pure, Result.andThen_ok, List.map_toArray, List.map_cons, List.map_nil, hs, hx, hr]
  exact hK' _ _ hfin
/-- The shelf in the middle of its building. -/
def ShSt (D P b : Nat) (w : World) (a : Option Addr) (c : Nat) (l : List (FamV × FamD)) : Prop :=
  (b < D ∧ P < D ∧ b ≠ P ∧ D ≤ w.heap.size) ∧ w.cell? ⟨P, 0, none⟩ = some (.pointer (some ⟨b, 0, none⟩)) ∧ (w.cell? ⟨b, 0, none⟩ = some (.int .u32 0) ∧ w.cell? ⟨b, 1, none⟩ = some (.int .i32 1) ∧ w.cell? ⟨b, 3, none⟩ = some (.slice a l.length c)) ∧ (∀ i, w.frozen? ⟨b, i, none⟩ = false) ∧ LibAt D w a c l
theorem shSt_keep {D P b : Nat} {w w' : World} {a : Option Addr} {c : Nat} {l : List (FamV × FamD)} (h : ShSt D P b w a c l) (hb : Below w.heap.size w w') : ShSt D P b w' a c l := by
  obtain ⟨⟨h1, h2, h3, h4⟩, h5, ⟨h6, h7, h8⟩, h9, h10⟩ := h
  have hs := hb.size
  exact ⟨⟨h1, h2, h3, by omega⟩, ((bcell hb).1 P 0 (by omega)).trans h5, ⟨((bcell hb).1 b 0 (by omega)).trans h6, ((bcell hb).1 b 1 (by omega)).trans h7, ((bcell hb).1 b 3 (by omega)).trans h8⟩, fun i => ((bcell hb).2 b i (by omega)).trans (h9 i), libAt_keep h10 hb⟩
theorem far_cell {W w3 : World} {A : Array Value} {T : TypeId} {row : Option Nat} {b i : Nat} {v : Value} (hg : (W.drew.alloc (.cells A T)).grownBy w3 row) (hlt : b < W.heap.size) (hne : some b ≠ row) (hc : W.cell? ⟨b, i, none⟩ = some v) (hz : W.frozen? ⟨b, i, none⟩ = false) : w3.cell? ⟨b, i, none⟩ = some v ∧ w3.frozen? ⟨b, i, none⟩ = false := by
  have hb : Below W.heap.size W (W.drew.alloc (.cells A T)) := ((Below.refl W.heap.size W).drew).alloc (Nat.le_refl _) _
  have hs := hb.size
  have h := hg.block b (by omega) hne
  exact ⟨(World.cell?_of_block (a := ⟨b, i, none⟩) h).trans (((bcell hb).1 b i hlt).trans hc), (World.frozen?_of_block (a := ⟨b, i, none⟩) h).trans (((bcell hb).2 b i hlt).trans hz)⟩
theorem far_cell1 {W w3 : World} {A : Array Value} {T : TypeId} {row : Option Nat} {b i : Nat} {v : Value} (hg : (W.drew.alloc (.cells A T)).grownBy w3 row) (hlt : b < W.heap.size) (hne : some b ≠ row) (hc : W.cell? ⟨b, i, none⟩ = some v) : w3.cell? ⟨b, i, none⟩ = some v := by
  have hb : Below W.heap.size W (W.drew.alloc (.cells A T)) := ((Below.refl W.heap.size W).drew).alloc (Nat.le_refl _) _
  have hs := hb.size
  exact (World.cell?_of_block (a := ⟨b, i, none⟩) (hg.block b (by omega) hne)).trans (((bcell hb).1 b i hlt).trans hc)
theorem add_fin {D P b : Nat} {w W2 : World} {a : Option Addr} {c : Nat} {l : List (FamV × FamD)} {q : FamV × FamD} (hW : Below w.heap.size w W2) (hS : ShSt D P b W2 a c l) (hq : RowOK D W2 q) (h1 : Apart q.2.a a) (h2 : Apart q.2.b a) (hf : ∀ p ∈ l, Far p q) (hbw : b ≤ w.heap.size) {g cap : Nat} {w3 : World} {A : Array Value} {T : TypeId}
    (r1 : w3.ownsRow D 57 8 (.slice (some ⟨g, 0, none⟩) (l.length + 1) cap) (l.length + 1) (l.flatMap famCs ++ famCs q)) (r2 : (W2.drew.alloc (.cells A T)).grownBy w3 (Value.slice a l.length c).ownBlock) (r3 : (Value.slice a l.length c).ownBlock = some g ∨ g = W2.heap.size + 1) :
    ∃ a' c', ShSt D P b (w3.setCell ⟨b, 3, none⟩ (.slice (some ⟨g, 0, none⟩) (l.length + 1) cap)) a' c' (l ++ [q]) ∧ Below b w (w3.setCell ⟨b, 3, none⟩ (.slice (some ⟨g, 0, none⟩) (l.length + 1) cap)) := by
  obtain ⟨⟨i1, i2, i3, i4⟩, i5, ⟨i6, i7, i8⟩, i9, i10⟩ := hS
  have hdr : Below W2.heap.size W2 W2.drew := (Below.refl _ _).drew
  have hbne : ∀ x, x < D → some x ≠ (Value.slice a l.length c).ownBlock := fun x hx e => by
    rw [ownBlock_slice] at e
    have := (i10.1.lt x e.symm).1
    omega
  have m0 := far_cell r2 (show b < W2.heap.size by omega) (hbne b i1) i6 (i9 0)
  have m1 := far_cell r2 (show b < W2.heap.size by omega) (hbne b i1) i7 (i9 1)
  have m3 := far_cell r2 (show b < W2.heap.size by omega) (hbne b i1) i8 (i9 3)
  have mP := far_cell1 r2 (show P < W2.heap.size by omega) (hbne P i2) i5
  have hbA : Below W2.heap.size W2 (W2.drew.alloc (.cells A T)) := ((Below.refl W2.heap.size W2).drew).alloc (Nat.le_refl _) _
  have hsA := hbA.size
  have hs3 := r2.size
  have mz : ∀ i, w3.frozen? ⟨b, i, none⟩ = false := fun i => (World.frozen?_of_block (a := ⟨b, i, none⟩) (r2.block b (by omega) (hbne b i1))).trans (((bcell hbA).2 b i (by omega)).trans (i9 i))
  rw [ownBlock_slice] at r2 r3
  have hL := libAt_push (a' := some ⟨g, 0, none⟩) (c' := cap) (w := W2.drew) (w' := w3) (libAt_keep i10 hdr) (by simpa using i4) (rowOK_keep hq hdr) h1 h2 hf r1 r2 (by
    rcases r3 with e | e
    · exact .inl e.symm
    · exact .inr (by show some g = _; rw [e]; rfl))
  have hg := gs w3 b 3 (.slice (some ⟨g, 0, none⟩) (l.length + 1) cap)
  have n1 : ∀ i, i ≠ 3 → (⟨b, 3, none⟩ : Addr) ≠ ⟨b, i, none⟩ := fun i hi e => hi (by injection e with _ e; exact e.symm)
  have n2 : (⟨b, 3, none⟩ : Addr) ≠ ⟨P, 0, none⟩ := fun e => i3 (by injection e)
  have hBw : Below b w W2 := hW.mono hbw
  refine ⟨some ⟨g, 0, none⟩, cap, ⟨⟨i1, i2, i3, by simp; omega⟩, by rw [World.cell?_setCell_other _ _ _ _ n2]; exact mP, ⟨by rw [World.cell?_setCell_other _ _ _ _ (n1 0 (by omega))]; exact m0.1, by rw [World.cell?_setCell_other _ _ _ _ (n1 1 (by omega))]; exact m1.1, by rw [List.length_append]; exact World.cell?_setCell_same _ _ _ m3.1⟩, fun i => by have := mz i; simpa using this, libAt_kept hL hg i1⟩, ?_⟩
  refine Below.setCell (((hBw.trans (hbA.mono (by omega))).grown r2 (by omega) (fun x e => ?_))) (Nat.le_refl _) _
  have := (i10.1.lt x e).1
  omega
set_option maxHeartbeats 8000000 in
set_option maxRecDepth 20000 in
theorem add_any (D P b : Nat) (w : World) (a : Option Addr) (c : Nat) (l : List (FamV × FamD)) (q : FamV × FamD) (h : ShSt D P b w a c l) (hl : l.length ≤ 1000) (hq : RowOK D w q) (h1 : Apart q.2.a a) (h2 : Apart q.2.b a) (hf : ∀ p ∈ l, Far p q) (hbw : b ≤ w.heap.size) (hsz : -9223372036854775808 ≤ q.1.sz ∧ q.1.sz ≤ 9223372036854775807) :
    Calls Try.prog 113 #[.string q.1.nm, .int .i64 q.1.kd, .int .i64 q.1.sz, .int .i64 q.1.co, .slice q.2.a q.1.xs.length q.2.c, .slice q.2.b q.1.ys.length q.2.d, .pointer (some ⟨P, 0, none⟩)] w
      (fun e w' => e = .returned (.tuple #[]) ∧ ∃ a' c', ShSt D P b w' a' c' (l ++ [q]) ∧ Below b w w') := by
  obtain ⟨i0, hi, hz0, hz1, hz2⟩ := info_parts info_family
  have HFO := Lib.hid (fieldOf_impl q.1.sz w hsz)
  go_enter Try.func113, Try.ntmps113
  go_wp2_with fail
  refine HFO.out.mono ?_
  rintro e w1 ⟨rfl, hb1⟩
  have hS := shSt_keep h hb1
  have hq1 := rowOK_keep hq hb1
  obtain ⟨⟨k1, k2, k3, k4⟩, k5, ⟨k6, k7, k8⟩, k9, k10⟩ := id hS
  have k93 := k9 3
  clear h hq
  have HOW := Lib.hid (fun W (hW : Below w1.heap.size w1 W) => k10.1.keep hW)
  have hone := Lib.hid (show ∀ u ∈ famCs q, u.oneCell' = true by intro u hu; simp [famCs] at hu; rcases hu with rfl | rfl | rfl | rfl | rfl | rfl | rfl | rfl <;> rfl)
  have hsz1 := Lib.hid k4
  have hal1 := Below.alloc (Below.refl w1.heap.size w1) (Nat.le_refl _) (.cells #[.int .i64 (rFieldOf q.1.sz).1.1, .int .i64 (rFieldOf q.1.sz).1.2.1, .int .i64 (rFieldOf q.1.sz).1.2.2] 55)
  have t0 := cell_new w1 #[.int .i64 (rFieldOf q.1.sz).1.1, .int .i64 (rFieldOf q.1.sz).1.2.1, .int .i64 (rFieldOf q.1.sz).1.2.2] 55 0
  have t1 := cell_new w1 #[.int .i64 (rFieldOf q.1.sz).1.1, .int .i64 (rFieldOf q.1.sz).1.2.1, .int .i64 (rFieldOf q.1.sz).1.2.2] 55 1
  have t2 := cell_new w1 #[.int .i64 (rFieldOf q.1.sz).1.1, .int .i64 (rFieldOf q.1.sz).1.2.1, .int .i64 (rFieldOf q.1.sz).1.2.2] 55 2
  have hS2 := shSt_keep hS hal1
  have hq2 := rowOK_keep hq1 hal1
  have hWb := bt hb1 hal1
  clear k5 k6 k7 k8 k9 k10 k93 HOW hsz1 k4 hS hq1 hal1 hb1
  obtain ⟨⟨-, -, -, k4⟩, k5, ⟨k6, k7, k8⟩, k9, k10⟩ := id hS2
  have k93 := k9 3
  go_wp2_with fail
  generalize (w1.alloc (.cells #[.int .i64 (rFieldOf q.1.sz).1.1, .int .i64 (rFieldOf q.1.sz).1.2.1, .int .i64 (rFieldOf q.1.sz).1.2.2] 55)) = W2 at *
  have HOW := Lib.hid (fun W (hW : Below W2.heap.size W2 W) => k10.1.keep hW)
  have HD := Lib.hid k4
  have hlen : (famCs q).length = 1 * 8 := rfl
  have nw1 := World.new_ne W2 ⟨P, 0, none⟩ k5
  have nw2 := World.new_ne W2 ⟨b, 3, none⟩ k8
  have hPlt : P < W2.heap.size := by omega
  have hbne : some b ≠ (Value.slice a l.length c).ownBlock := fun e => by
    rw [ownBlock_slice] at e
    have := (k10.1.lt b e.symm).1
    omega
  have hblt : b < W2.heap.size := by omega
  have hPne : some P ≠ (Value.slice a l.length c).ownBlock := fun e => by
    rw [ownBlock_slice] at e
    have := (k10.1.lt P e.symm).1
    omega
  have HP := Lib.hid (fun (w3 : World) (A : Array Value) (T : TypeId) (hg : (W2.drew.alloc (.cells A T)).grownBy w3 (Value.slice a l.length c).ownBlock) => far_cell1 hg hPlt hPne k5)
  have HM := Lib.hid (fun (w3 : World) (A : Array Value) (T : TypeId) (hg : (W2.drew.alloc (.cells A T)).grownBy w3 (Value.slice a l.length c).ownBlock) => far_cell hg hblt hbne k8 k93)
  go_region_law ((refine step_append_lies _ (by rfl) _ _ _ (by rfl) D 57 i0 _ 8 104 Try.underlying65 hi hz0 hz1 hz2 (by rfl) (by decide) (.slice a l.length c) l.length (l.flatMap famCs) (by rfl) (World.ownsRow.alloc (HOW.out W2.drew ((Below.refl _ _).drew)) _) ⟨W2.heap.size, 0, none⟩ 1 1 (famCs q) (by rfl) hlen (World.news_of_block (heap_alloc_new W2.drew _)) hone.out (by decide) (by unfold maxLen; omega) (by omega) (by have := HD.out; simp; omega) (W2.heap.size + 1) (by simp) ?_; intro g cap w3 r1 r2 r3 r4; obtain ⟨m1, m2⟩ := HM.out _ _ _ r2; have m3 := HP.out _ _ _ r2))
  all_goals go_end0
  all_goals exact ⟨rfl, add_fin hWb hS2 hq2 h1 h2 hf hbw r1 r2 r3⟩
end Go.Proofs.Ytckmenjbblgiiaa
