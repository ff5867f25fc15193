/-
  Contracts: the family with a name.
  Conditions: names of at most 2^20 bytes.
-/
import Derived.Test.YtckmenjbblgiiaaFamN
set_option linter.unusedVariables false
namespace Go.Proofs.Ytckmenjbblgiiaa
open Go.RowKit Go.G8
def zeroF : FamV := ⟨⟨#[]⟩, 0, 0, 0, [], []⟩
def namedF (name : ByteArray) : FamV × Int := match lib5.find? (fun f => f.nm.toList == name.toList) with | some f => (f, 0) | none => (zeroF, 4)
def RetNamed (name : ByteArray) (w : World) (e : Ending) (w' : World) : Prop :=
  ∃ q : FamV × FamD, e = .returned (.tuple #[.agg (famCs q).toArray, .int .i64 (namedF name).2]) ∧ q.1 = (namedF name).1 ∧ RowOK w.heap.size w' q ∧ Below w.heap.size w w'
theorem flat8 {l : List (FamV × FamD)} {k j : Nat} {q : FamV × FamD} (h : l[k]? = some q) (hj : j < 8) : (l.flatMap famCs)[k * 8 + j]? = (famCs q)[j]? := by
  induction l generalizing k with
  | nil => simp at h
  | cons p l ih =>
    rw [List.flatMap_cons]
    have hp : (famCs p).length = 8 := rfl
    cases k with
    | zero =>
      obtain rfl : p = q := by simpa using h
      rw [List.getElem?_append_left (by omega)]
      simp
    | succ k =>
      rw [List.getElem?_append_right (by omega), hp, show (k + 1) * 8 + j - 8 = k * 8 + j by omega]
      exact ih (by simpa using h)
theorem libAt_cells {D g c k : Nat} {w : World} {l : List (FamV × FamD)} {q : FamV × FamD} (h : LibAt D w (some ⟨g, 0, none⟩) c l) (hk : l[k]? = some q) :
    w.cell? ⟨g, k * 8, none⟩ = some (.string q.1.nm) ∧ w.cell? ⟨g, k * 8 + 1, none⟩ = some (.int .i64 q.1.kd) ∧ w.cell? ⟨g, k * 8 + 2, none⟩ = some (.int .i64 (rFieldOf q.1.sz).1.1) ∧ w.cell? ⟨g, k * 8 + 3, none⟩ = some (.int .i64 (rFieldOf q.1.sz).1.2.1) ∧ w.cell? ⟨g, k * 8 + 4, none⟩ = some (.int .i64 (rFieldOf q.1.sz).1.2.2) ∧ w.cell? ⟨g, k * 8 + 5, none⟩ = some (.slice q.2.a q.1.xs.length q.2.c) ∧ w.cell? ⟨g, k * 8 + 6, none⟩ = some (.int .i64 q.1.co) ∧ w.cell? ⟨g, k * 8 + 7, none⟩ = some (.slice q.2.b q.1.ys.length q.2.d) := by
  have c := fun j (hj : j < 8) v (hv : (famCs q)[j]? = some v) => h.1.cellAt ((flat8 hk hj).trans hv)
  exact ⟨c 0 (by omega) _ rfl, c 1 (by omega) _ rfl, c 2 (by omega) _ rfl, c 3 (by omega) _ rfl, c 4 (by omega) _ rfl, c 5 (by omega) _ rfl, c 6 (by omega) _ rfl, c 7 (by omega) _ rfl⟩
/-- None of the first k families has the name. -/
def noneTo (name : ByteArray) (l : List (FamV × FamD)) (k : Nat) : Prop := ∀ q ∈ l.take k, (q.1.nm.toList == name.toList) = false
theorem noneTo_step {name : ByteArray} {l : List (FamV × FamD)} {k : Nat} {q : FamV × FamD} (h : noneTo name l k) (hq : l[k]? = some q) (hn : (q.1.nm.toList == name.toList) = false) : noneTo name l (k + 1) := by
  intro p hp
  rw [List.take_add_one, hq] at hp
  rcases List.mem_append.1 hp with hp | hp
  · exact h p hp
  · rw [List.mem_singleton.1 hp]; exact hn
theorem named_hit {name : ByteArray} {l : List (FamV × FamD)} {k : Nat} {q : FamV × FamD} (hl : l.map (·.1) = lib5) (h : noneTo name l k) (hq : l[k]? = some q) (hn : (q.1.nm.toList == name.toList) = true) : namedF name = (q.1, 0) := by
  have hs : l = l.take k ++ q :: l.drop (k + 1) := by
    have := (List.getElem?_eq_some_iff.1 hq)
    obtain ⟨hk, e⟩ := this
    conv => lhs; rw [← List.take_append_drop k l, List.drop_eq_getElem_cons hk, e]
  have hf : lib5.find? (fun f => f.nm.toList == name.toList) = some q.1 := by
    rw [← hl, hs, List.map_append, List.find?_append, List.map_cons, List.find?_cons, hn]
    have : ((l.take k).map (·.1)).find? (fun f => f.nm.toList == name.toList) = none := by
      rw [List.find?_eq_none]
      intro f hf
      obtain ⟨p, hp, rfl⟩ := List.mem_map.1 hf
      rw [h p hp]
      decide
    rw [this]
    rfl
  unfold namedF
  rw [hf]
theorem named_miss {name : ByteArray} {l : List (FamV × FamD)} (hl : l.map (·.1) = lib5) (h : noneTo name l 5) : namedF name = (zeroF, 4) := by
  have hf : lib5.find? (fun f => f.nm.toList == name.toList) = none := by
    rw [← hl, List.find?_eq_none]
    intro f hf
    obtain ⟨p, hp, rfl⟩ := List.mem_map.1 hf
    have := h p (by rw [List.take_of_length_le (by rw [lib5_len hl]; omega)]; exact hp)
    rw [this]
    decide
  unfold namedF
  rw [hf]
theorem zero_cs : famCs (zeroF, ⟨none, 0, none, 0⟩) = [.string ⟨#[]⟩, .int .i64 0, .int .i64 0, .int .i64 0, .int .i64 0, .slice none 0 0, .int .i64 0, .slice none 0 0] := by
  have h : (rFieldOf 0).1 = (0, 0, 0) := by decide +kernel
  unfold famCs zeroF
  simp only [h]
  rfl
theorem zero_row (D : Nat) (w : World) : RowOK D w (zeroF, ⟨none, 0, none, 0⟩) := ⟨Ow.nil _ _ _, Ow.nil _ _ _, fun g h => by simp [blk] at h⟩
theorem rowOK_more {D D' : Nat} {w : World} {q : FamV × FamD} (h : RowOK D w q) (hD : D' ≤ D) : RowOK D' w q := ⟨h.1.more hD, h.2.1.more hD, h.2.2⟩
theorem store8 (w : World) (G : Nat) {f : Nat → Value} (h : Cells G f 8 w) (v0 v1 v2 v3 v4 v5 v6 v7 : Value) :
    (∀ i v, i < 8 → (#[v0, v1, v2, v3, v4, v5, v6, v7] : Array Value)[i]? = some v → ((((((((w.setCell ⟨G, 0, none⟩ v0).setCell ⟨G, 1, none⟩ v1).setCell ⟨G, 2, none⟩ v2).setCell ⟨G, 3, none⟩ v3).setCell ⟨G, 4, none⟩ v4).setCell ⟨G, 5, none⟩ v5).setCell ⟨G, 6, none⟩ v6).setCell ⟨G, 7, none⟩ v7).cell? ⟨G, i, none⟩ = some v) ∧
    w.grownBy ((((((((w.setCell ⟨G, 0, none⟩ v0).setCell ⟨G, 1, none⟩ v1).setCell ⟨G, 2, none⟩ v2).setCell ⟨G, 3, none⟩ v3).setCell ⟨G, 4, none⟩ v4).setCell ⟨G, 5, none⟩ v5).setCell ⟨G, 6, none⟩ v6).setCell ⟨G, 7, none⟩ v7) (some G) := by
  have hC := (((((((h.set (j := 0) (by omega) v0).set (j := 1) (by omega) v1).set (j := 2) (by omega) v2).set (j := 3) (by omega) v3).set (j := 4) (by omega) v4).set (j := 5) (by omega) v5).set (j := 6) (by omega) v6).set (j := 7) (by omega) v7
  refine ⟨fun i v hi hv => ?_, keeps_trans (keeps_trans (keeps_trans (keeps_trans (keeps_trans (keeps_trans (keeps_trans (gs w G 0 v0) (gs _ G 1 v1)) (gs _ G 2 v2)) (gs _ G 3 v3)) (gs _ G 4 v4)) (gs _ G 5 v5)) (gs _ G 6 v6)) (gs _ G 7 v7)⟩
  rw [hC i hi]
  rcases i with _ | _ | _ | _ | _ | _ | _ | _ | i
  all_goals first | omega | (simp at hv; subst hv; rfl)
theorem named_ret {name : ByteArray} {w wr : World} {f : Nat → Value} {q : FamV × FamD} {code : Int} {v0 v1 v2 v3 v4 v5 v6 v7 : Value} (hB : Below w.heap.size w wr) (hlt : w.heap.size < wr.heap.size) (hC : Cells w.heap.size f 8 wr) (hR : namedF name = (q.1, code)) (hrow : RowOK (w.heap.size + 1) wr q) (hv : famCs q = [v0, v1, v2, v3, v4, v5, v6, v7]) :
    (∀ i v, i < 8 → (#[v0, v1, v2, v3, v4, v5, v6, v7] : Array Value)[i]? = some v → ((((((((wr.setCell ⟨w.heap.size, 0, none⟩ v0).setCell ⟨w.heap.size, 1, none⟩ v1).setCell ⟨w.heap.size, 2, none⟩ v2).setCell ⟨w.heap.size, 3, none⟩ v3).setCell ⟨w.heap.size, 4, none⟩ v4).setCell ⟨w.heap.size, 5, none⟩ v5).setCell ⟨w.heap.size, 6, none⟩ v6).setCell ⟨w.heap.size, 7, none⟩ v7).cell? ⟨w.heap.size, i, none⟩ = some v) ∧
    RetNamed name w (.returned (.tuple #[.agg #[v0, v1, v2, v3, v4, v5, v6, v7], .int .i64 code])) ((((((((wr.setCell ⟨w.heap.size, 0, none⟩ v0).setCell ⟨w.heap.size, 1, none⟩ v1).setCell ⟨w.heap.size, 2, none⟩ v2).setCell ⟨w.heap.size, 3, none⟩ v3).setCell ⟨w.heap.size, 4, none⟩ v4).setCell ⟨w.heap.size, 5, none⟩ v5).setCell ⟨w.heap.size, 6, none⟩ v6).setCell ⟨w.heap.size, 7, none⟩ v7) := by
  obtain ⟨h1, h2⟩ := store8 wr w.heap.size hC v0 v1 v2 v3 v4 v5 v6 v7
  refine ⟨h1, q, ?_, by rw [hR], rowOK_more (rowOK_kept hrow h2 (by omega)) (by omega), hB.grown h2 (by omega) (fun g e => by injection e; omega)⟩
  rw [hR, hv]
theorem RetNamed.alloc {name : ByteArray} {w W : World} {e : Ending} (h : RetNamed name w e W) (o : Obj) : RetNamed name w e (W.alloc o) := by
  obtain ⟨q, h1, h2, h3, h4⟩ := h
  exact ⟨q, h1, h2, rowOK_keep h3 (Below.alloc (Below.refl _ _) (Nat.le_refl _) o), h4.alloc h4.size o⟩
set_option maxHeartbeats 2000000 in
set_option maxRecDepth 20000 in
theorem specNamed_any (name : ByteArray) (w : World) (hn : name.size ≤ 1048576) : Calls Try.prog 40 #[.string name] w (RetNamed name w) := by
  have hal := Below.alloc (Below.refl w.heap.size w) (Nat.le_refl _) (.cells #[.string ⟨#[]⟩, .int .i64 0, .int .i64 0, .int .i64 0, .int .i64 0, .slice none 0 0, .int .i64 0, .slice none 0 0] 57)
  have hC := Cells.new w #[.string ⟨#[]⟩, .int .i64 0, .int .i64 0, .int .i64 0, .int .i64 0, .slice none 0 0, .int .i64 0, .slice none 0 0] 57 (.int .i64 0)
  have hz : ∀ i, (w.alloc (.cells #[.string ⟨#[]⟩, .int .i64 0, .int .i64 0, .int .i64 0, .int .i64 0, .slice none 0 0, .int .i64 0, .slice none 0 0] 57)).frozen? ⟨w.heap.size, i, none⟩ = false := fun i => frozen_of_row _ _ _ _ _ (heap_alloc_new w _)
  have hs0 : (w.alloc (.cells #[.string ⟨#[]⟩, .int .i64 0, .int .i64 0, .int .i64 0, .int .i64 0, .slice none 0 0, .int .i64 0, .slice none 0 0] 57)).heap.size = w.heap.size + 1 := by simp
  go_enter Try.func40, Try.ntmps40
  go_wp2_with fail
  generalize (w.alloc (.cells #[.string ⟨#[]⟩, .int .i64 0, .int .i64 0, .int .i64 0, .int .i64 0, .slice none 0 0, .int .i64 0, .slice none 0 0] 57)) = W0 at *
  refine (specLibrary_any _).mono ?_
  rintro e w1 ⟨a, c, l, rfl, hl, hL, hb1⟩
  obtain ⟨g, rfl, hg1, hg2⟩ := hL.1.form (by rw [lib5_len hl]; omega)
  have hB1 := bt hal hb1
  replace hC := hC.to hb1 (by omega)
  replace hz : ∀ i, w1.frozen? ⟨w.heap.size, i, none⟩ = false := fun i => ((bcell hb1).2 _ i (by omega)).trans (hz i)
  rw [hs0] at hL
  clear hb1 hal
  go_wp2_with fail
  go_loopw [5] (fun i wr => ∃ k : Nat, k ≤ 5 ∧ i = .int .i64 (k : Int) ∧ Hid (noneTo name l k) ∧ wr = w1) (fun i _ => 5 - (intOf i).toNat)
  case atStart => exact ⟨0, by omega, rfl, Lib.hid (show noneTo name l 0 from fun q hq => by simp at hq), rfl⟩
  case round =>
    obtain ⟨k, hk, rfl, hno, rfl⟩ := hrel
    have z0 := hz 0
    have r0 := hC 0 (by decide)
    have r1 := hC 1 (by decide)
    have r2 := hC 2 (by decide)
    have r3 := hC 3 (by decide)
    have r4 := hC 4 (by decide)
    have r5 := hC 5 (by decide)
    have r6 := hC 6 (by decide)
    have r7 := hC 7 (by decide)
    have z1 := hz 1
    have z2 := hz 2
    have z3 := hz 3
    have z4 := hz 4
    have z5 := hz 5
    have z6 := hz 6
    have z7 := hz 7
    simp at r0 r1 r2 r3 r4 r5 r6 r7
    by_cases hlt : k < 5
    · have hq : l[k]? = some (l[k]'(by rw [lib5_len hl]; exact hlt)) := List.getElem?_eq_getElem _
      generalize l[k]'(by rw [lib5_len hl]; exact hlt) = q at hq
      obtain ⟨c0, c1, c2, c3, c4, c5, c6, c7⟩ := libAt_cells hL hq
      have hl1 : (0 : Int) ≤ (k : Int) := by omega
      have hl2 : (k : Int) < 5 := by omega
      cases hn : (q.1.nm.toList == name.toList) with
      | true =>
        have hR := named_hit hl hno.out hq hn
        have hrow := (hL.2.1 q (List.mem_of_getElem? hq)).1
        go_wp2_with fail
        obtain ⟨hv, hfin⟩ := named_ret hB1 (by have := hB1.size; omega) hC hR hrow rfl
        have v0 := hv 0 _ (by omega) rfl
        have v1 := hv 1 _ (by omega) rfl
        have v2 := hv 2 _ (by omega) rfl
        have v3 := hv 3 _ (by omega) rfl
        have v4 := hv 4 _ (by omega) rfl
        have v5 := hv 5 _ (by omega) rfl
        have v6 := hv 6 _ (by omega) rfl
        have v7 := hv 7 _ (by omega) rfl
        exact bodyPost_ret (by simp [results, Try.results40, go_sem, v0, v1, v2, v3, v4, v5, v6, v7]) rfl hfin
      | false =>
        have hno2 := Lib.hid (noneTo_step hno.out hq hn)
        go_wp2_with fail
        go_roundw
        case rel => exact ⟨k + 1, by omega, by go_num, hno2, by first | rfl | trivial⟩
        case measure => simp [intOf]; omega
    · obtain rfl : k = 5 := by omega
      have hR := named_miss hl hno.out
      go_wp2_with fail
      go_wp2_with fail
      obtain ⟨hv, hfin⟩ := named_ret hB1 (by have := hB1.size; omega) hC hR (zero_row _ _) zero_cs
      have v0 := hv 0 _ (by omega) rfl
      have v1 := hv 1 _ (by omega) rfl
      have v2 := hv 2 _ (by omega) rfl
      have v3 := hv 3 _ (by omega) rfl
      have v4 := hv 4 _ (by omega) rfl
      have v5 := hv 5 _ (by omega) rfl
      have v6 := hv 6 _ (by omega) rfl
      have v7 := hv 7 _ (by omega) rfl
      exact bodyPost_ret (by simp [results, Try.results40, go_sem, v0, v1, v2, v3, v4, v5, v6, v7]) rfl hfin
set_option maxHeartbeats 2000000 in
set_option maxRecDepth 20000 in
theorem implNamed_any (name : ByteArray) (w : World) (hn : name.size ≤ 1048576) : Calls Try.prog 41 #[.string name] w (RetNamed name w) := by
  have hal := Below.alloc (Below.refl w.heap.size w) (Nat.le_refl _) (.cells #[.string ⟨#[]⟩, .int .i64 0, .int .i64 0, .int .i64 0, .int .i64 0, .slice none 0 0, .int .i64 0, .slice none 0 0] 57)
  have hC := Cells.new w #[.string ⟨#[]⟩, .int .i64 0, .int .i64 0, .int .i64 0, .int .i64 0, .slice none 0 0, .int .i64 0, .slice none 0 0] 57 (.int .i64 0)
  have hz : ∀ i, (w.alloc (.cells #[.string ⟨#[]⟩, .int .i64 0, .int .i64 0, .int .i64 0, .int .i64 0, .slice none 0 0, .int .i64 0, .slice none 0 0] 57)).frozen? ⟨w.heap.size, i, none⟩ = false := fun i => frozen_of_row _ _ _ _ _ (heap_alloc_new w _)
  have hs0 : (w.alloc (.cells #[.string ⟨#[]⟩, .int .i64 0, .int .i64 0, .int .i64 0, .int .i64 0, .slice none 0 0, .int .i64 0, .slice none 0 0] 57)).heap.size = w.heap.size + 1 := by simp
  go_enter Try.func41, Try.ntmps41
  go_wp2_with fail
  generalize (w.alloc (.cells #[.string ⟨#[]⟩, .int .i64 0, .int .i64 0, .int .i64 0, .int .i64 0, .slice none 0 0, .int .i64 0, .slice none 0 0] 57)) = W0 at *
  refine (implLibrary_any _).mono ?_
  rintro e w1 ⟨a, c, l, rfl, hl, hL, hb1⟩
  obtain ⟨g, rfl, hg1, hg2⟩ := hL.1.form (by rw [lib5_len hl]; omega)
  have hB1 := bt hal hb1
  replace hC := hC.to hb1 (by omega)
  replace hz : ∀ i, w1.frozen? ⟨w.heap.size, i, none⟩ = false := fun i => ((bcell hb1).2 _ i (by omega)).trans (hz i)
  rw [hs0] at hL
  clear hb1 hal
  go_wp2_with fail
  have HC := Lib.hid (fun (W : World) (hb : Below w1.heap.size w1 W) => hC.to hb (by have := hB1.size; omega))
  have HZ := Lib.hid (fun (W : World) (hb : Below w1.heap.size w1 W) i => ((bcell hb).2 w.heap.size i (by have := hB1.size; omega)).trans (hz i))
  have HL := Lib.hid (fun (W : World) (hb : Below w1.heap.size w1 W) => libAt_keep hL hb)
  have hlt1 : w.heap.size < w1.heap.size := by have := hB1.size; omega
  clear hC hz hL
  go_loopw [8] (fun i wr => ∃ k : Nat, k ≤ 5 ∧ i = .int .i64 (k : Int) ∧ Hid (noneTo name l k) ∧ Below w1.heap.size w1 wr) (fun i _ => 5 - (intOf i).toNat)
  case atStart => exact ⟨0, by omega, rfl, Lib.hid (show noneTo name l 0 from fun q hq => by simp at hq), Below.refl _ _⟩
  case round =>
    obtain ⟨k, hk, rfl, hno, hbw⟩ := hrel
    have hC := HC.out wr hbw
    have hz := HZ.out wr hbw
    have hL := HL.out wr hbw
    have hsw := hbw.size
    have n1 : w.heap.size ≠ wr.heap.size := by omega
    have n2 : wr.heap.size ≠ w.heap.size := by omega
    have n3 : w.heap.size < wr.heap.size := by omega
    have z0 := hz 0
    have r0 := hC 0 (by decide)
    have r1 := hC 1 (by decide)
    have r2 := hC 2 (by decide)
    have r3 := hC 3 (by decide)
    have r4 := hC 4 (by decide)
    have r5 := hC 5 (by decide)
    have r6 := hC 6 (by decide)
    have r7 := hC 7 (by decide)
    have z1 := hz 1
    have z2 := hz 2
    have z3 := hz 3
    have z4 := hz 4
    have z5 := hz 5
    have z6 := hz 6
    have z7 := hz 7
    simp at r0 r1 r2 r3 r4 r5 r6 r7
    by_cases hlt : k < 5
    · have hq : l[k]? = some (l[k]'(by rw [lib5_len hl]; exact hlt)) := List.getElem?_eq_getElem _
      generalize l[k]'(by rw [lib5_len hl]; exact hlt) = q at hq
      obtain ⟨c0, c1, c2, c3, c4, c5, c6, c7⟩ := libAt_cells hL hq
      have hl1 : (0 : Int) ≤ (k : Int) := by omega
      have hl2 : (k : Int) < 5 := by omega
      have hal2 := Below.alloc (Below.refl wr.heap.size wr) (Nat.le_refl _) (.cells #[.string ⟨#[]⟩, .int .i64 0, .int .i64 0, .int .i64 0, .int .i64 0, .slice none 0 0, .int .i64 0, .slice none 0 0] 57)
      have hN := Cells.new wr #[.string ⟨#[]⟩, .int .i64 0, .int .i64 0, .int .i64 0, .int .i64 0, .slice none 0 0, .int .i64 0, .slice none 0 0] 57 (.int .i64 0)
      cases hn : (q.1.nm.toList == name.toList) with
      | true =>
        have hR := named_hit hl hno.out hq hn
        have hrow := (hL.2.1 q (List.mem_of_getElem? hq)).1
        go_wp2_with fail
        obtain ⟨hv, hfin⟩ := named_ret (bt hB1 hbw) n3 hC hR hrow rfl
        have v0 := hv 0 _ (by omega) rfl
        have v1 := hv 1 _ (by omega) rfl
        have v2 := hv 2 _ (by omega) rfl
        have v3 := hv 3 _ (by omega) rfl
        have v4 := hv 4 _ (by omega) rfl
        have v5 := hv 5 _ (by omega) rfl
        have v6 := hv 6 _ (by omega) rfl
        have v7 := hv 7 _ (by omega) rfl
        exact bodyPost_ret (by simp [results, Try.results41, go_sem, n3, v0, v1, v2, v3, v4, v5, v6, v7]) rfl (hfin.alloc _)
      | false =>
        have hno2 := Lib.hid (noneTo_step hno.out hq hn)
        go_wp2_with fail
        go_roundw
        case rel => exact ⟨k + 1, by omega, by go_num, hno2, Below.alloc hbw hbw.size _⟩
        case measure => simp [intOf]; omega
    · obtain rfl : k = 5 := by omega
      have hR := named_miss hl hno.out
      go_wp2_with fail
      go_wp2_with fail
      obtain ⟨hv, hfin⟩ := named_ret (bt hB1 hbw) n3 hC hR (zero_row _ _) zero_cs
      have v0 := hv 0 _ (by omega) rfl
      have v1 := hv 1 _ (by omega) rfl
      have v2 := hv 2 _ (by omega) rfl
      have v3 := hv 3 _ (by omega) rfl
      have v4 := hv 4 _ (by omega) rfl
      have v5 := hv 5 _ (by omega) rfl
      have v6 := hv 6 _ (by omega) rfl
      have v7 := hv 7 _ (by omega) rfl
      exact bodyPost_ret (by simp [results, Try.results41, go_sem, v0, v1, v2, v3, v4, v5, v6, v7]) rfl hfin
end Go.Proofs.Ytckmenjbblgiiaa
