/-
  Contracts: the parts of the penalty, by the reference.
  Conditions: a valid grid without unknown cells.
-/
import Derived.Test.YtckmenjbblgiiaaPenA
import Derived.Test.YtckmenjbblgiiaaRowsV
set_option linter.unusedVariables false
namespace Go.Proofs.Ytckmenjbblgiiaa
open Go.RowKit Go.G8
/-- A part of a list that reads. -/
theorem rd_part {w : World} {b o n : Nat} {xs : List Int} (h : Rd .i64 w (some ⟨b, o, none⟩) n xs) {i m : Nat} (hm : i + m ≤ n) (hn : 0 < n) : Rd .i64 w (some ⟨b, o + i, none⟩) m ((xs.drop i).take m) := by
  have hl := h.len
  refine ⟨⟨by rw [ints_length, List.length_take, List.length_drop]; omega, fun hm0 => ?_⟩, fun x hx => h.2 x (List.mem_of_mem_drop (List.mem_of_mem_take hx))⟩
  obtain ⟨ad, e, hb, hc⟩ := h.1.2 hn
  injection e with e
  subst e
  refine ⟨_, rfl, hb, fun j u hu => ?_⟩
  have hj : j < m := by
    have := (List.getElem?_eq_some_iff.1 hu).1
    rw [ints_length, List.length_take] at this
    omega
  have h2 := hc (i + j) u (by
    unfold ints at hu ⊢
    rw [List.getElem?_map] at hu ⊢
    rw [List.getElem?_take_of_lt hj, List.getElem?_drop] at hu
    exact hu)
  rw [Addr.add_lit] at h2 ⊢
  rwa [Nat.add_assoc]
theorem part_cell {xs : List Int} {i m k : Nat} (hk : k < m) : cellN ((xs.drop i).take m) k = cellN xs (i + k) := by
  unfold cellN
  rw [List.getElem?_take_of_lt hk, List.getElem?_drop]
theorem rowP_part (c : Nat) (xs : List Int) (v : Nat) : (runS (cellN ((xs.drop (v * c)).take c)) c).1 = rowP c xs v := by
  unfold rowP
  rw [runS_congr (fun k hk => part_cell hk) c (Nat.le_refl _)]
theorem at_bnd {r c v i n : Nat} (hn : n = r * c) (hr : r ≤ 40000) (hc : c ≤ 40000) (hv : v < r) (hi : i < c) : IntKind.i64.wrap ((v : Int) * (c : Int)) = (v : Int) * (c : Int) ∧ IntKind.i64.wrap ((v : Int) * (c : Int) + (i : Int)) = ((v * c + i : Nat) : Int) ∧ v * c + i < n := by
  have h1 : (v + 1) * c ≤ r * c := Nat.mul_le_mul_right c hv
  have h2 : r * c ≤ 40000 * 40000 := Nat.mul_le_mul hr hc
  rw [Nat.succ_mul] at h1
  have e : ((v * c : Nat) : Int) = (v : Int) * (c : Int) := Int.natCast_mul v c
  generalize hm : v * c = M at *
  rw [← e]
  exact ⟨IntWalk.i64_in _ (by omega), by rw [IntWalk.i64_in _ (by omega)]; omega, by omega⟩
theorem cell_of_rd {W : World} {b o n I : Nat} {xs : List Int} (h : Rd .i64 W (some ⟨b, o, none⟩) n xs) (hI : I < n) : b < W.heap.size ∧ W.cell? ⟨b, o + I, none⟩ = some (.int .i64 (cellN xs I)) := by
  obtain ⟨b', o', x, e, hl, hc, hx, -, -⟩ := h.at_ hI
  injection e with e
  injection e with e1 e2
  subst e1 e2
  rw [cellN_of hx.out]
  exact ⟨hl, hc⟩
theorem sqRow_le2 {c : Nat} (hc : c ≤ 40000) (xs : List Int) (i : Nat) : sqRow c xs i ≤ 120000 := by
  have := sumN_le (B := 3) (c - 1) (fun j (_ : j < c - 1) => (show sqP c xs i j ≤ 3 by unfold sqP; split <;> omega))
  unfold sqRow
  omega
theorem rowP_le {c : Nat} (h : c ≤ 40000) (xs : List Int) (j : Nat) : rowP c xs j ≤ 120000 := by
  have := (runS_bd (fun k => cellN xs (j * c + k)) c).1
  unfold rowP
  omega
theorem colP_le {r : Nat} (h : r ≤ 40000) (c : Nat) (xs : List Int) (j : Nat) : colP r c xs j ≤ 120000 := by
  have := (runS_bd (fun k => cellN xs (k * c + j)) r).1
  unfold colP
  omega
/-- The first u cells of a column. -/
def colL (c : Nat) (xs : List Int) (v u : Nat) : List Int := (List.range u).map (fun i => cellN xs (i * c + v))
theorem colL_succ (c : Nat) (xs : List Int) (v u : Nat) : colL c xs v (u + 1) = colL c xs v u ++ [cellN xs (u * c + v)] := by unfold colL; rw [List.range_succ, List.map_append]; rfl
theorem colL_len (c : Nat) (xs : List Int) (v u : Nat) : (colL c xs v u).length = u := by unfold colL; simp
theorem colL_fits {c : Nat} {xs : List Int} (hz : zo xs) (v u : Nat) : ∀ x ∈ colL c xs v u, fits .i64 x := by
  intro x hx
  unfold colL at hx
  obtain ⟨i, -, rfl⟩ := List.mem_map.1 hx
  have := (show 0 ≤ cellN xs (i * c + v) ∧ cellN xs (i * c + v) ≤ 1 by
    unfold cellN
    cases hy : xs[i * c + v]? with
    | none => simp
    | some y => have := hz y (List.mem_of_getElem? hy); simp; omega)
  show -9223372036854775808 ≤ _ ∧ _ ≤ _
  omega
theorem colP_list (r c : Nat) (xs : List Int) (v : Nat) : (runS (cellN (colL c xs v r)) r).1 = colP r c xs v := by
  unfold colP
  rw [runS_congr (h := fun k => cellN xs (k * c + v)) (fun k hk => ?_) r (Nat.le_refl _)]
  unfold colL
  refine cellN_of ?_
  simp [hk]
/-- The squares below row v that have been counted where column q is reached. -/
def sqTo (r c : Nat) (xs : List Int) (v q : Nat) : Nat := if v + 1 < r then sumN (sqP c xs v) (min q (c - 1)) else 0
theorem sqTo_on {r c : Nat} {xs : List Int} {v q : Nat} (h1 : v + 1 < r) (h2 : q + 1 < c) : sqTo r c xs v (q + 1) = sqTo r c xs v q + sqP c xs v q := by
  unfold sqTo
  rw [if_pos h1, if_pos h1, Nat.min_eq_left (by omega), Nat.min_eq_left (by omega)]
  rfl
theorem sqTo_no {r c : Nat} {xs : List Int} {v q : Nat} (h : ¬ (v + 1 < r ∧ q + 1 < c)) : sqTo r c xs v (q + 1) = sqTo r c xs v q := by
  unfold sqTo
  by_cases h1 : v + 1 < r
  · rw [if_pos h1, if_pos h1, Nat.min_eq_right (by omega), Nat.min_eq_right (by omega)]
  · rw [if_neg h1, if_neg h1]
theorem sqTo_end {r c : Nat} {xs : List Int} {v : Nat} (hv : v < r) : sumN (sqRow c xs) (min v (r - 1)) + sqTo r c xs v c = sumN (sqRow c xs) (min (v + 1) (r - 1)) := by
  unfold sqTo
  by_cases h1 : v + 1 < r
  · rw [if_pos h1, show min v (r - 1) = v by omega, show min c (c - 1) = c - 1 by omega, show min (v + 1) (r - 1) = v + 1 by omega]
    rfl
  · rw [if_neg h1, show min v (r - 1) = r - 1 by omega, show min (v + 1) (r - 1) = r - 1 by omega]
    rfl
theorem sqP_at {c : Nat} {xs : List Int} {v q I : Nat} (hI : v * c + q = I) : sqP c xs v q = if cellN xs I + cellN xs (I + 1) + cellN xs (I + c) + cellN xs (I + c + 1) = 0 ∨ cellN xs I + cellN xs (I + 1) + cellN xs (I + c) + cellN xs (I + c + 1) = 4 then 3 else 0 := by
  unfold sqP sq4
  rw [show (v + 1) * c + q = v * c + q + c by rw [Nat.succ_mul]; omega, hI]
theorem cell_zo2 {xs : List Int} (hz : zo xs) (I : Nat) : 0 ≤ cellN xs I ∧ cellN xs I ≤ 1 := by
  unfold cellN
  cases hx : xs[I]? with
  | none => simp
  | some x => have := hz x (List.mem_of_getElem? hx); simp; omega
theorem dark_at {xs : List Int} {I n : Nat} (hl : xs.length = n) (h : I < n) : (xs.take (I + 1)).sum = (xs.take I).sum + cellN xs I := by
  have hx : xs[I]? = some (xs[I]'(by omega)) := List.getElem?_eq_getElem _
  rw [dark_step hx, cellN_of hx]
theorem sqTo_le {r c : Nat} (hc : c ≤ 40000) (xs : List Int) (v q : Nat) : sqTo r c xs v q ≤ 120000 := by
  unfold sqTo
  split
  · have := sumN_le (B := 3) (min q (c - 1)) (fun j (_ : j < min q (c - 1)) => (show sqP c xs v j ≤ 3 by unfold sqP; split <;> omega))
    omega
  · omega
set_option maxHeartbeats 8000000 in
set_option maxRecDepth 20000 in
theorem l16Parts_any (r c : Nat) (b o : Nat) (n k : Nat) (xs : List Int) (w : World) (h : Rd .i64 w (some ⟨b, o, none⟩) n xs) (hn : Hid (n = r * c)) (hn4 : n ≤ 40000) (hk : n ≤ k ∧ k ≤ 9223372036854775807) (hr : 1 ≤ r ∧ r ≤ 40000) (hc : 1 ≤ c ∧ c ≤ 40000) (hz : Hid (zo xs)) :
    Calls Try.prog 73 #[.agg #[.int .i64 r, .int .i64 c, .slice (some ⟨b, o, none⟩) n k]] w (RetRow .i64 2 (rParts r c xs) w) := by
  have HL := Lib.hid h.len
  obtain ⟨hw0, hlt0, c0, c1, c2⟩ := grid_start w (.int .i64 r) (.int .i64 c) (.slice (some ⟨b, o, none⟩) n k) 41
  have hR := Lib.hid (h.to hw0)
  obtain ⟨i0, hi, hz0, hz1, hz2⟩ := info_parts info_int64
  go_enter Try.func73, Try.ntmps73
  go_wp2
  generalize (w.alloc (.cells #[.int .i64 r, .int .i64 c, .slice (some ⟨b, o, none⟩) n k] 41)) = W0 at *
  have HC := Lib.hid (fun W (hW : Below W0.heap.size W0 W) => (show W.cell? ⟨w.heap.size, 0, none⟩ = some (.int .i64 r) ∧ W.cell? ⟨w.heap.size, 1, none⟩ = some (.int .i64 c) ∧ W.cell? ⟨w.heap.size, 2, none⟩ = some (.slice (some ⟨b, o, none⟩) n k) from ⟨((bcell hW).1 _ 0 hlt0).trans c0, ((bcell hW).1 _ 1 hlt0).trans c1, ((bcell hW).1 _ 2 hlt0).trans c2⟩))
  clear c0 c1 c2
  go_loopw [3, 6] (fun s i wr => ∃ v X : Nat, v ≤ r ∧ Hid (X = sumN (rowP c xs) v) ∧ i = .int .i64 (v : Int) ∧ s = .int .i64 (X : Int) ∧ Below W0.heap.size W0 wr) (fun _ i _ => r - (intOf i).toNat)
  case atStart => exact ⟨0, 0, by omega, rfl, rfl, rfl, Below.refl _ _⟩
  case round =>
    obtain ⟨v, X, hv, hX, rfl, rfl, hB⟩ := hrel
    obtain ⟨d0, d1, d2⟩ := HC.out _ hB
    have hX1 : X ≤ 120000 * v := by rw [hX.out]; exact sumN_le v (fun j _ => rowP_le (by omega) xs j)
    have hP1 : rowP c xs v ≤ 120000 := rowP_le (by omega) xs v
    have hnx := Lib.hid (show sumN (rowP c xs) (v + 1) = X + rowP c xs v by rw [hX.out]; rfl)
    by_cases hlt : v < r
    · obtain ⟨M, hM⟩ : ∃ M, v * c = M := ⟨_, rfl⟩
      have hMc : (v : Int) * (c : Int) = (M : Int) := by rw [← hM]; exact (Int.natCast_mul v c).symm
      have hMn : M + c ≤ n := by
        have h1 : (v + 1) * c ≤ r * c := Nat.mul_le_mul_right c hlt
        rw [Nat.succ_mul, hM] at h1
        have := hn.out
        omega
      have e1 : IntKind.i64.wrap ((v : Int) * (c : Int)) = (M : Int) := by rw [hMc]; exact IntWalk.i64_in _ (by omega)
      have e2 : IntKind.i64.wrap (((v : Int) + 1) * (c : Int)) = ((M + c : Nat) : Int) := by rw [Int.add_mul, hMc, Int.one_mul, IntWalk.i64_in _ (by omega)]; omega
      have HRn := Lib.hid (fun W (hW : Below W0.heap.size W0 W) => l16Runs_any (some ⟨b, o + M, none⟩) c (k - M) ((xs.drop M).take c) W (rd_part (hR.out.to hW) hMn (by omega)) (by omega))
      have hpart := Lib.hid (rowP_part c xs v)
      rw [hM] at hpart
      have hkM : ¬ k = M := by omega
      have hM2 : M + c - M = c := by omega
      clear hMc hM
      rw [hpart.out] at HRn
      generalize rowP c xs v = P at *
      go_wp2_with fail
      refine (HRn.out _ hB).mono ?_
      rintro e w1 ⟨rfl, hb1⟩
      have hB1 := bt hB hb1
      clear hb1 hB HRn hpart hkM hM2 e1 e2 d0 d1 d2
      go_wp2_with fail
      go_roundw
      case rel => exact ⟨v + 1, X + P, by omega, hnx.out.symm, by go_num, by go_num, hB1⟩
      case measure => simp [intOf]; omega
    · have hXr := Lib.hid (show X = sumN (rowP c xs) r by rw [hX.out, show v = r by omega])
      have hXb : X ≤ 4800000000 := by omega
      clear hX1 hP1 hnx hX
      go_wp2_with fail
      clear d0 d1 d2
      go_loopw [3, 7] (fun s i wr => ∃ v Y : Nat, v ≤ c ∧ Hid (Y = X + sumN (colP r c xs) v) ∧ i = .int .i64 (v : Int) ∧ s = .int .i64 (Y : Int) ∧ Below W0.heap.size W0 wr) (fun _ i _ => c - (intOf i).toNat)
      case atStart => exact ⟨0, X, by omega, rfl, rfl, rfl, hB⟩
      case round =>
        clear hB
        obtain ⟨v, Y, hv, hY, rfl, rfl, hB⟩ := hrel
        obtain ⟨d0, d1, d2⟩ := HC.out _ hB
        have hY1 : Y ≤ X + 120000 * v := by rw [hY.out]; exact Nat.add_le_add_left (sumN_le v (fun j _ => colP_le (by omega) c xs j)) X
        have hP1 : colP r c xs v ≤ 120000 := colP_le (by omega) c xs v
        have hnx := Lib.hid (show X + sumN (colP r c xs) (v + 1) = Y + colP r c xs v by rw [hY.out]; show X + (sumN (colP r c xs) v + colP r c xs v) = _; omega)
        by_cases hlt : v < c
        · have hE := OwV.empty 2 1 W0.heap.size wr hB.size
          go_wp2_with fail
          clear d0 d1 d2
          go_loopw [8, 9] (fun l i wr2 => ∃ (u : Nat) (a' : Option Addr) (c' : Nat), u ≤ r ∧ i = .int .i64 (u : Int) ∧ l = .slice a' u c' ∧ Ow .i64 2 W0.heap.size wr2 a' u c' (colL c xs v u) ∧ Below W0.heap.size W0 wr2) (fun _ i _ => r - (intOf i).toNat)
          case atStart => exact ⟨0, _, _, by omega, rfl, rfl, hE, hB.alloc hB.size _⟩
          case round =>
            clear hB hE
            obtain ⟨u, a', c', hu, rfl, rfl, ho, hB⟩ := hrel
            obtain ⟨d0, d1, d2⟩ := HC.out _ hB
            by_cases hlt2 : u < r
            · obtain ⟨e1, e2, e3⟩ := at_bnd hn.out (by omega) (by omega) hlt2 hlt
              obtain ⟨f1, f2⟩ := cell_of_rd (hR.out.to hB) e3
              have hsn := Lib.hid (colL_succ c xs v u)
              generalize cellN xs (u * c + v) = x at *
              generalize u * c + v = I at *
              go_wp2_with (at_builtin; refine wpList_push .i64 _ rfl _ _ 25 rfl W0.heap.size 2 _ i0 8 Try.underlying25 hi hz0 hz1 hz2 (by omega) a' u c' _ _ rfl ho rfl (by omega) hB.size ?_; intro a3 n3 c3 w3 ho3 hbel3)
              rw [← hsn.out] at ho3
              have hn3 := ho3.len
              rw [colL_len] at hn3
              subst hn3
              have hB3 := hB.trans hbel3
              clear ho hbel3 hB d0 d1 d2 e1 e2 f1 f2
              go_roundw
              case rel => exact ⟨u + 1, a3, c3, by omega, by go_num, rfl, ho3, hB3⟩
              case measure => simp [intOf]; omega
            · obtain rfl : u = r := by omega
              have HRn := l16Runs_any a' u c' (colL c xs v u) wr (ho.rd (colL_fits hz.out v u)) (by omega)
              rw [colP_list] at HRn
              generalize colP u c xs v = P at *
              go_wp2_with fail
              refine HRn.mono ?_
              rintro e w1 ⟨rfl, hb1⟩
              have hB1 := bt hB hb1
              clear hb1 hB HRn d0 d1 d2 ho
              go_wp2_with fail
              go_roundw
              case rel => exact ⟨v + 1, Y + P, by omega, hnx.out.symm, by go_num, by go_num, hB1⟩
              case measure => simp [intOf]; omega
        · have hYr := Lib.hid (show Y = runsP r c xs by rw [hY.out, hXr.out, show v = c by omega]; rfl)
          have hYb : Y ≤ 9600000000 := by omega
          clear hY1 hP1 hnx hY hXr hXb
          go_wp2_with fail
          clear d0 d1 d2
          go_loopw [4, 5, 10] (fun sq dk i wr => ∃ (v S : Nat) (D : Int), v ≤ r ∧ Hid (S = sumN (sqRow c xs) (min v (r - 1))) ∧ Hid (D = (xs.take (v * c)).sum) ∧ (0 ≤ D ∧ D ≤ 40000) ∧ i = .int .i64 (v : Int) ∧ sq = .int .i64 (S : Int) ∧ dk = .int .i64 D ∧ Below W0.heap.size W0 wr) (fun _ _ i _ => r - (intOf i).toNat)
          case atStart => exact ⟨0, 0, 0, by omega, by rw [Nat.min_eq_left (by omega)]; rfl, (by show (0 : Int) = (xs.take (0 * c)).sum; simp), by omega, rfl, rfl, rfl, hB⟩
          case round =>
            clear hB
            obtain ⟨v, S, D, hv, hS, hD, hDb, rfl, rfl, rfl, hB⟩ := hrel
            obtain ⟨d0, d1, d2⟩ := HC.out _ hB
            have hS1 : S ≤ 120000 * 40000 := by
              rw [hS.out]
              have := sumN_le (f := sqRow c xs) (B := 120000) (min v (r - 1)) (fun j _ => sqRow_le2 (by omega) xs j)
              omega
            by_cases hlt : v < r
            · have hend := Lib.hid (sqTo_end (c := c) (xs := xs) hlt)
              rw [← hS.out] at hend
              go_wp2_with fail
              clear d0 d1 d2
              go_loopw [4, 5, 11] (fun sq dk i wr => ∃ (q S2 : Nat) (D2 : Int), q ≤ c ∧ Hid (S2 = S + sqTo r c xs v q) ∧ Hid (D2 = (xs.take (v * c + q)).sum) ∧ (0 ≤ D2 ∧ D2 ≤ 40000) ∧ i = .int .i64 (q : Int) ∧ sq = .int .i64 (S2 : Int) ∧ dk = .int .i64 D2 ∧ Below W0.heap.size W0 wr) (fun _ _ i _ => c - (intOf i).toNat)
              case atStart => exact ⟨0, S, D, by omega, (by show S = S + sqTo r c xs v 0; unfold sqTo; simp [sumN]), hD, hDb, rfl, rfl, rfl, hB⟩
              case round =>
                clear hB hDb
                obtain ⟨q, S2, D2, hq, hS2, hD2, hDb, rfl, rfl, rfl, hB⟩ := hrel
                obtain ⟨d0, d1, d2⟩ := HC.out _ hB
                have hS3 : S2 ≤ S + 120000 := by rw [hS2.out]; exact Nat.add_le_add_left (sqTo_le (by omega) xs v q) S
                by_cases hlt2 : q < c
                · obtain ⟨e1, e2, e3⟩ := at_bnd hn.out (by omega) (by omega) hlt hlt2
                  obtain ⟨f1, f2⟩ := cell_of_rd (hR.out.to hB) e3
                  have hbd := dark_bd hz.out (v * c + q + 1)
                  have hds := Lib.hid (dark_at HL.out e3)
                  rw [← hD2.out] at hds
                  have z1 := cell_zo2 hz.out (v * c + q)
                  have hon := Lib.hid (sqTo_on (r := r) (c := c) (xs := xs) (v := v) (q := q))
                  have hno := Lib.hid (sqTo_no (r := r) (c := c) (xs := xs) (v := v) (q := q))
                  have hmore : v + 1 < r → v * c + q + c < n := fun hh => by
                    have h1 : (v + 2) * c ≤ r * c := Nat.mul_le_mul_right c hh
                    rw [Nat.add_mul] at h1
                    have := hn.out
                    omega
                  have hmore1 : v + 1 < r ∧ q + 1 < c → v * c + q + c + 1 < n := fun hh => by
                    have h1 : (v + 2) * c ≤ r * c := Nat.mul_le_mul_right c hh.1
                    rw [Nat.add_mul] at h1
                    have := hn.out
                    omega
                  have hsq := Lib.hid (sqP_at (c := c) (xs := xs) (v := v) (q := q) rfl)
                  rw [hds.out] at hbd
                  have hd3 : 0 ≤ D2 + cellN xs (v * c + q) ∧ D2 + cellN xs (v * c + q) ≤ 40000 := by omega
                  have hds2 := Lib.hid (show D2 + cellN xs (v * c + q) = (xs.take (v * c + (q + 1))).sum from hds.out.symm)
                  clear hds hbd
                  obtain ⟨I, hI⟩ : ∃ I, v * c + q = I := ⟨_, rfl⟩
                  rw [hI] at e2 e3 f2 z1 hmore hmore1 hsq hd3 hds2
                  have hb1 : (0 : Int) ≤ (I : Int) := by omega
                  have hb2 : (I : Int) < (n : Int) := by omega
                  by_cases hcc : v + 1 < r ∧ q + 1 < c
                  · have hm := hmore hcc.1
                    have i2 := (cell_of_rd (I := I + 1) (hR.out.to hB) (by omega)).2
                    have i3 := (cell_of_rd (I := I + c) (hR.out.to hB) (by omega)).2
                    have hm1 := hmore1 hcc
                    have i4 := (cell_of_rd (I := I + c + 1) (hR.out.to hB) hm1).2
                    have z2 := cell_zo2 hz.out (I + 1)
                    have z3 := cell_zo2 hz.out (I + c)
                    have z4 := cell_zo2 hz.out (I + c + 1)
                    replace hon := Lib.hid (hon.out hcc.1 hcc.2)
                    rw [hsq.out] at hon
                    clear hsq hno hmore hmore1 hI
                    generalize cellN xs I = y1 at *
                    generalize cellN xs (I + 1) = y2 at *
                    generalize cellN xs (I + c) = y3 at *
                    generalize cellN xs (I + c + 1) = y4 at *
                    obtain ⟨hc1, hc2⟩ := hcc
                    have hmm : I + c + 1 < n := hm1
                    have j1 : IntKind.i64.wrap ((I : Int) + 1) = (I : Int) + 1 := IntWalk.i64_in _ (by omega)
                    have j2 : IntKind.i64.wrap ((I : Int) + (c : Int)) = (I : Int) + (c : Int) := IntWalk.i64_in _ (by omega)
                    have j3 : IntKind.i64.wrap ((I : Int) + (c : Int) + 1) = (I : Int) + (c : Int) + 1 := IntWalk.i64_in _ (by omega)
                    have k1 : (0 : Int) ≤ (I : Int) + 1 ∧ (I : Int) + 1 < (n : Int) := by omega
                    have k2 : (0 : Int) ≤ (I : Int) + (c : Int) ∧ (I : Int) + (c : Int) < (n : Int) := by omega
                    have k3 : (0 : Int) ≤ (I : Int) + (c : Int) + 1 ∧ (I : Int) + (c : Int) + 1 < (n : Int) := by omega
                    have t1 : ((I : Int) + 1).toNat = I + 1 := by omega
                    have t2 : ((I : Int) + (c : Int)).toNat = I + c := by omega
                    have t3 : ((I : Int) + (c : Int) + 1).toNat = I + c + 1 := by omega
                    have wy1 : IntKind.i64.wrap (y1 + y2) = y1 + y2 := IntWalk.i64_in _ (by omega)
                    have wy2 : IntKind.i64.wrap (y1 + y2 + y3) = y1 + y2 + y3 := IntWalk.i64_in _ (by omega)
                    have wy3 : IntKind.i64.wrap (y1 + y2 + y3 + y4) = y1 + y2 + y3 + y4 := IntWalk.i64_in _ (by omega)
                    obtain ⟨k1a, k1b⟩ := k1
                    obtain ⟨k2a, k2b⟩ := k2
                    obtain ⟨k3a, k3b⟩ := k3
                    go_wp2_with fail
                    go_quiet (fail)
                    by_cases s0 : y1 + y2 + y3 + y4 = 0
                    · have b0 : (y1 + y2 + y3 + y4 == 0) = true := by simp [s0]
                      have hE3 := Lib.hid (show S2 + 3 = S + sqTo r c xs v (q + 1) by rw [hon.out, if_pos (.inl s0), hS2.out]; omega)
                      clear s0 hon
                      go_wp2_with fail
                      go_roundw
                      case rel => exact ⟨q + 1, S2 + 3, D2 + y1, by omega, hE3.out, hds2, hd3, by go_num, by go_num, rfl, (by first | exact hB | exact hB.drew | exact below_drewN hB _)⟩
                      case measure => simp [intOf]; omega
                    · by_cases s4 : y1 + y2 + y3 + y4 = 4
                      · have b0 : (y1 + y2 + y3 + y4 == 0) = false := by simp [s0]
                        have b4 : (y1 + y2 + y3 + y4 == 4) = true := by simp [s4]
                        have hE3 := Lib.hid (show S2 + 3 = S + sqTo r c xs v (q + 1) by rw [hon.out, if_pos (.inr s4), hS2.out]; omega)
                        clear s0 s4 hon
                        go_wp2_with fail
                        go_roundw
                        case rel => exact ⟨q + 1, S2 + 3, D2 + y1, by omega, hE3.out, hds2, hd3, by go_num, by go_num, rfl, (by first | exact hB | exact hB.drew | exact below_drewN hB _)⟩
                        case measure => simp [intOf]; omega
                      · have b0 : (y1 + y2 + y3 + y4 == 0) = false := by simp [s0]
                        have b4 : (y1 + y2 + y3 + y4 == 4) = false := by simp [s4]
                        have hE3 := Lib.hid (show S2 = S + sqTo r c xs v (q + 1) by rw [hon.out, if_neg (by rintro (e | e); exact s0 e; exact s4 e), hS2.out]; rfl)
                        clear s0 s4 hon
                        go_wp2_with fail
                        go_roundw
                        case rel => exact ⟨q + 1, S2, D2 + y1, by omega, hE3.out, hds2, hd3, by go_num, by go_num, rfl, (by first | exact hB | exact hB.drew | exact below_drewN hB _)⟩
                        case measure => simp [intOf]; omega
                  · replace hno := Lib.hid (hno.out hcc)
                    clear hsq hon hmore hmore1 hI
                    generalize cellN xs I = y1 at *
                    have hE3 := Lib.hid (show S2 = S + sqTo r c xs v (q + 1) by rw [hno.out, hS2.out])
                    by_cases hv1 : v + 1 < r
                    · have hq1 : ¬ q + 1 < c := fun e => hcc ⟨hv1, e⟩
                      clear hcc hno
                      go_wp2_with fail
                      go_roundw
                      case rel => exact ⟨q + 1, S2, D2 + y1, by omega, hE3.out, hds2, hd3, by go_num, by go_num, rfl, (by first | exact hB | exact hB.drew | exact below_drewN hB _)⟩
                      case measure => simp [intOf]; omega
                    · clear hcc hno
                      go_wp2_with fail
                      go_roundw
                      case rel => exact ⟨q + 1, S2, D2 + y1, by omega, hE3.out, hds2, hd3, by go_num, by go_num, rfl, (by first | exact hB | exact hB.drew | exact below_drewN hB _)⟩
                      case measure => simp [intOf]; omega
                · have hqc : q = c := by omega
                  subst hqc
                  have hE4 := Lib.hid (show S2 = sumN (sqRow q xs) (min (v + 1) (r - 1)) by rw [hS2.out]; exact hend.out)
                  have hE5 := Lib.hid (show D2 = (xs.take ((v + 1) * q)).sum by rw [hD2.out, Nat.succ_mul])
                  go_wp2_with fail
                  go_roundw
                  case rel => exact ⟨v + 1, S2, D2, by omega, hE4, hE5, hDb, by go_num, rfl, rfl, hB⟩
                  case measure => simp [intOf]; omega
            · have hSr := Lib.hid (show S = squaresP r c xs by rw [hS.out]; unfold squaresP; rw [show min v (r - 1) = r - 1 by omega])
              have hDr := Lib.hid (show D = darkI xs by rw [hD.out, show v = r by omega, ← hn.out, List.take_of_length_le (by rw [HL.out]; exact Nat.le_refl _)]; rfl)
              have hnb : 1 ≤ n := by
                have e := hn.out
                have h2 := Nat.mul_le_mul hr.1 hc.1
                omega
              have hmul : (r : Int) * (c : Int) = (n : Int) := by rw [hn.out]; exact (Int.natCast_mul r c).symm
              have ew : IntKind.i64.wrap ((r : Int) * (c : Int)) = (n : Int) := by rw [hmul]; exact IntWalk.i64_in _ (by omega)
              obtain ⟨Q, hQ⟩ : ∃ Q, max (2 * D - (n : Int)) (-(2 * D - n)) = Q := ⟨_, rfl⟩
              have hQ2 : 0 ≤ Q ∧ Q ≤ 120000 := by omega
              have hDist := Lib.hid (fun W => l01Abs_any (2 * D - n) W (by omega))
              rw [hQ] at hDist
              obtain ⟨T, hT⟩ : ∃ T, Q * 10 / (n : Int) = T := ⟨_, rfl⟩
              have hT2 : 0 ≤ T := by rw [← hT]; exact Int.ediv_nonneg (by omega) (by omega)
              have hT3 : T ≤ Q * 10 := by rw [← hT]; exact Int.ediv_le_self _ (by omega)
              have hlast := Lib.hid (show lastP (darkI xs) ((r : Int) * (c : Int)) = 10 * T by
                unfold lastP distP
                rw [← hDr.out, hmul, hQ, Int.tdiv_eq_ediv_of_nonneg (by omega), Int.mul_comm 10 Q, hT])
              have hdk2 : ((n : Int) == 0) = false := by simp; omega
              have hres := Lib.hid (show rParts r c xs = [(Y : Int), (S : Int), 10 * T] by
                unfold rParts
                rw [Int.toNat_natCast, Int.toNat_natCast, hlast.out, ← hYr.out, ← hSr.out])
              clear hmul hQ hlast hDr hSr hYr hS hD
              go_wp2_with fail
              refine (hDist.out _).mono ?_
              rintro e w' ⟨rfl, rfl⟩
              go_wp2_with fail
              have hlit := Ow.lit (K := .i64) (E := 2) (B := w.heap.size) (xs := [(Y : Int), (S : Int), 10 * T]) wr (bt hw0 hB).size (by simp)
              exact bodyPost_ret (v := .slice (some ⟨wr.heap.size, 0, none⟩) 3 3) (by simp [results, Try.results73, go_sem]) rfl ⟨_, _, _, rfl, by rw [hres.out]; exact hlit, (bt hw0 hB).alloc (bt hw0 hB).size _⟩
end Go.Proofs.Ytckmenjbblgiiaa
