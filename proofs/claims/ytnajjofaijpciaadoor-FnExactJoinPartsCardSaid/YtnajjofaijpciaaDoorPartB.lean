/-
  Contracts: the copy, the comparison and the marks of lists of parts in the laws.
  Conditions: lists of at most 2^20 parts.
-/
import Derived.Test.YtnajjofaijpciaaDoorPartA
set_option linter.unusedVariables false
namespace Go.Proofs.YtnajjofaijpciaaDoor
open Go.RowKit Go.G8
def zP : PartV := ⟨0, 0, 0, ⟨#[]⟩⟩
theorem made_parts (n : Nat) : (madeCells #[.int .i64 0, .int .i64 0, .int .i64 0, .string ⟨#[]⟩] (n * 4)).toList = (List.replicate n zP).flatMap pCs := by
  apply List.ext_getElem?
  intro m
  by_cases hm : m < n * 4
  · have h1 : ((List.replicate n zP).flatMap pCs)[(m / 4) * 4 + m % 4]? = (pCs zP)[m % 4]? := pflat (by rw [List.getElem?_replicate, if_pos (by omega)]) (by omega)
    rw [show (m / 4) * 4 + m % 4 = m by omega] at h1
    rw [h1]
    have h4 : m % 4 = 0 ∨ m % 4 = 1 ∨ m % 4 = 2 ∨ m % 4 = 3 := by omega
    simp only [madeCells, Array.toList_map, List.getElem?_map, Array.toList_range, List.getElem?_range hm]
    rcases h4 with e | e | e | e <;> (simp [e, pCs, zP])
  · rw [List.getElem?_eq_none, List.getElem?_eq_none]
    · rw [pflat_len, List.length_replicate]; omega
    · rw [Array.length_toList, size_madeCells]; omega
theorem pset4 (A B : List PartV) (q p : PartV) : ((((((A ++ q :: B).flatMap pCs).set (A.length * 4) (.int .i64 p.ix)).set (A.length * 4 + 1) (.int .i64 p.ct)).set (A.length * 4 + 2) (.int .i64 p.pr)).set (A.length * 4 + 3) (.string p.tx)) = (A ++ p :: B).flatMap pCs := by
  have h4 : (pCs q).length = 4 := rfl
  have hl := pflat_len A
  rw [List.flatMap_append, List.flatMap_append, List.flatMap_cons, List.flatMap_cons]
  rw [List.set_append_right _ _ (by omega), List.set_append_right _ _ (by omega), List.set_append_right _ _ (by omega), List.set_append_right _ _ (by omega), hl]
  rw [show A.length * 4 - A.length * 4 = 0 by omega, show A.length * 4 + 1 - A.length * 4 = 1 by omega, show A.length * 4 + 2 - A.length * 4 = 2 by omega, show A.length * 4 + 3 - A.length * 4 = 3 by omega]
  rfl
theorem info_part : (Tryd.prog.info? 38).map (fun i => (i.zero, i.size, i.bytes)) = some (some (.agg #[.int .i64 0, .int .i64 0, .int .i64 0, .string ⟨#[]⟩]), 4, 40) := by kernel_rfl
/-- An owned list of parts; a store of a whole part into it. -/
theorem ownP_set {B g c n : Nat} {w : World} {A C : List PartV} {q : PartV} (h : OwV 38 4 B w (some ⟨g, 0, none⟩) n c ((A ++ q :: C).flatMap pCs)) (p : PartV) :
    OwV 38 4 B ((((w.setCell ⟨g, A.length * 4, none⟩ (.int .i64 p.ix)).setCell ⟨g, A.length * 4 + 1, none⟩ (.int .i64 p.ct)).setCell ⟨g, A.length * 4 + 2, none⟩ (.int .i64 p.pr)).setCell ⟨g, A.length * 4 + 3, none⟩ (.string p.tx)) (some ⟨g, 0, none⟩) n c ((A ++ p :: C).flatMap pCs) := by
  have := (((h.set_ (A.length * 4) (.int .i64 p.ix)).set_ (A.length * 4 + 1) (.int .i64 p.ct)).set_ (A.length * 4 + 2) (.int .i64 p.pr)).set_ (A.length * 4 + 3) (.string p.tx)
  rwa [pset4] at this
theorem ownP_cells {B g c n k : Nat} {w : World} {l : List PartV} {q : PartV} (h : OwV 38 4 B w (some ⟨g, 0, none⟩) n c (l.flatMap pCs)) (hk : l[k]? = some q) :
    w.cell? ⟨g, k * 4, none⟩ = some (.int .i64 q.ix) ∧ w.cell? ⟨g, k * 4 + 1, none⟩ = some (.int .i64 q.ct) ∧ w.cell? ⟨g, k * 4 + 2, none⟩ = some (.int .i64 q.pr) ∧ w.cell? ⟨g, k * 4 + 3, none⟩ = some (.string q.tx) := by
  have c := fun j (hj : j < 4) v (hv : (pCs q)[j]? = some v) => h.cellAt ((pflat hk hj).trans hv)
  exact ⟨c 0 (by omega) _ rfl, c 1 (by omega) _ rfl, c 2 (by omega) _ rfl, c 3 (by omega) _ rfl⟩
set_option maxHeartbeats 1000000 in
set_option maxRecDepth 20000 in
theorem toPartS_any (a : Option Addr) (n c : Nat) (l : List PartV) (w : World) (h : RdP w a n l) (hn : n ≤ 1048576) :
    Calls Tryd.prog 6 #[.slice a n c] w (GrowV 38 4 w.heap.size (l.flatMap pCs) w) := by
  obtain ⟨i0, hi, hz0, hz1, hz2⟩ := info_parts info_part
  have HL := Lib.hid h.len
  go_enter Tryd.func6, Tryd.ntmps6
  go_wp2_with (at_make; refine wpList_make_full _ rfl _ _ 26 rfl w.heap.size 38 i0 (.agg #[.int .i64 0, .int .i64 0, .int .i64 0, .string ⟨#[]⟩]) 4 Tryd.underlying26 hi hz0 hz1 .i64 .i64 _ _ n rfl rfl rfl rfl (by rw [hz2]; omega) (by unfold maxLen; omega) (Nat.le_refl _) ?_; intro w1 hown1 hg1)
  clear hz0 hz1 hz2
  have hown0 : OwV 38 4 w.heap.size w1 (some ⟨w.heap.size, 0, none⟩) n n ((List.replicate n zP).flatMap pCs) := by rw [← made_parts]; exact hown1
  go_loopw [4] (fun i wr => ∃ k : Nat, k ≤ n ∧ i = .int .i64 k ∧ OwV 38 4 w.heap.size wr (some ⟨w.heap.size, 0, none⟩) n n ((l.take k ++ List.replicate (n - k) zP).flatMap pCs) ∧ Below w.heap.size w wr) (fun i _ => n - (intOf i).toNat)
  case atStart => exact ⟨0, Nat.zero_le _, rfl, hown0, (Below.refl _ _).grown hg1 (Nat.le_refl _) (by simp)⟩
  case round =>
    clear hown0 hown1 hg1
    obtain ⟨k, hk, rfl, hown, hbel⟩ := hrel
    by_cases hlt : k < n
    · have hq : l[k]? = some (l[k]'(by rw [HL.out]; exact hlt)) := List.getElem?_eq_getElem _
      have htk : l.take (k + 1) = l.take k ++ [l[k]'(by rw [HL.out]; exact hlt)] := by rw [List.take_add_one, hq]; rfl
      have hA : (l.take k).length = k := by rw [List.length_take, HL.out]; omega
      have hrep : List.replicate (n - k) zP = zP :: List.replicate (n - (k + 1)) zP := by rw [← List.replicate_succ]; congr 1; omega
      generalize l[k]'(by rw [HL.out]; exact hlt) = q at *
      rw [hrep] at hown
      obtain ⟨b, o, rfl, hb, c0, c1, c2, c3⟩ := (h.to hbel).at_ hq
      have hl1 : (0 : Int) ≤ (k : Int) := by omega
      have hl2 : (k : Int) < (n : Int) := by omega
      go_wp2_with fail
      refine (toPart_any q.ix q.ct q.pr q.tx _).mono ?_
      rintro e w2 ⟨rfl, hb2⟩
      replace hown := hown.keep hb2
      replace hbel := bt hbel hb2
      obtain ⟨d0, d1, d2, d3⟩ := ownP_cells (k := k) (q := zP) hown (by rw [List.getElem?_append_right (by omega), hA]; simp)
      have hz := hown.free
      have z0 := hz (k * 4)
      have z1 := hz (k * 4 + 1)
      have z2 := hz (k * 4 + 2)
      have z3 := hz (k * 4 + 3)
      go_wp2_with fail
      go_roundw
      case rel =>
        refine ⟨k + 1, by omega, by go_num, ?_, (((hbel.setCell (Nat.le_refl _) _).setCell (Nat.le_refl _) _).setCell (Nat.le_refl _) _).setCell (Nat.le_refl _) _⟩
        have := ownP_set hown q
        rw [hA] at this
        rw [htk, List.append_assoc]
        exact this
      case measure => simp [intOf]; omega
    · obtain rfl : k = n := by omega
      have ht : l.take k ++ List.replicate (k - k) zP = l := by rw [Nat.sub_self, List.take_of_length_le (by rw [HL.out]; exact Nat.le_refl _)]; simp
      rw [ht] at hown
      go_wp2_with fail
      go_ret
      exact ⟨_, _, _, rfl, hown, hbel⟩
end Go.Proofs.YtnajjofaijpciaaDoor
