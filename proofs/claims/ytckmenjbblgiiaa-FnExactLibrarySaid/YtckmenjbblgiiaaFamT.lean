/-
  Contracts: the marks of a list of families, and the comparison of such lists, in the laws.
  Conditions: five families.
-/
import Derived.Test.YtckmenjbblgiiaaFamS
set_option linter.unusedVariables false
namespace Go.Proofs.Ytckmenjbblgiiaa
open Go.RowKit Go.G8
set_option maxHeartbeats 2000000 in
set_option maxRecDepth 20000 in
theorem markFamilyS_any (D : Nat) (a : Option Addr) (c n : Nat) (l : List GF) (w : World) (h : GAt D w a c l) (hn : l.length = n) (hn0 : 0 < n) (hn1 : n ≤ 100) (hl : ∀ f ∈ l, f.n ≤ 1000 ∧ f.m ≤ 1000) :
    Calls Try.prog 47 #[.slice a n c, .int .i64 1] w
      (fun e w' => e = .returned (.int .i64 (nxL 1 l : Nat)) ∧ GAt D w' a c (mkL 1 l) ∧ Below D w w') := by
  obtain ⟨g, rfl, hg1, hg2⟩ := h.1.form (by omega)
  go_enter Try.func47, Try.ntmps47
  go_wp2_with fail
  go_loopw [1, 5] (fun v i wr => ∃ j : Nat, j ≤ n ∧ i = .int .i64 (j : Int) ∧ v = .int .i64 (nxL 1 (l.take j) : Nat) ∧ GAt D wr (some ⟨g, 0, none⟩) c (mkL 1 (l.take j) ++ l.drop j) ∧ Below D w wr) (fun _ i _ => n - (intOf i).toNat)
  case atStart => exact ⟨0, by omega, rfl, rfl, h, Below.refl _ _⟩
  case round =>
    clear h
    obtain ⟨j, hj, rfl, rfl, h, hB⟩ := hrel
    by_cases hlt : j < n
    · have hq : l[j]? = some (l[j]'(by omega)) := List.getElem?_eq_getElem _
      have hdr : l.drop j = l[j]'(by omega) :: l.drop (j + 1) := List.drop_eq_getElem_cons (by omega)
      have htk : l.take (j + 1) = l.take j ++ [l[j]'(by omega)] := by rw [List.take_add_one, hq]; rfl
      have hk1 := nxL_ge 1 (l.take j)
      have hk2 : nxL 1 (l.take j) ≤ 1 + 2006 * (l.take j).length := nxL_le (fun f hf => hl f (List.mem_of_mem_take hf))
      have hbd := hl _ (List.mem_of_getElem? hq)
      have hmk : mkL 1 (l.take (j + 1)) = mkL 1 (l.take j) ++ [mkG (nxL 1 (l.take j)) (l[j]'(by omega))] := by rw [htk, mkL_snoc]
      have hnx : nxL 1 (l.take (j + 1)) = nxG (nxL 1 (l.take j)) (l[j]'(by omega)) := by rw [htk, nxL_snoc]
      have hA : (mkL 1 (l.take j)).length = j := by rw [mkL_len, List.length_take]; omega
      rw [List.length_take] at hk2
      rw [hdr] at h
      generalize l[j]'(by omega) = q at *
      generalize hAe : mkL 1 (l.take j) = A at *
      generalize hKe : nxL 1 (l.take j) = K at *
      subst hA
      have hget : (A ++ q :: l.drop (A.length + 1))[A.length]? = some q := by simp
      have hl1 : (0 : Int) ≤ (A.length : Int) := by omega
      have hl2 : (A.length : Int) < (n : Int) := by omega
      have hK : K ≤ 300000 := by omega
      go_wp2_with fail
      refine (markText_any K _ (by omega) (by omega)).mono ?_
      rintro e W1 ⟨rfl, hb1⟩
      replace h := gAt_keep h hb1
      replace hB := hB.trans (hb1.mono (by have := hB.size; omega))
      obtain ⟨c0, c1, c2, c3, c4, c5, c6, c7⟩ := gAt_cells h hget
      have z := h.1.free
      have z0 := z (A.length * 8)
      have z1 := z (A.length * 8 + 1)
      have z2 := z (A.length * 8 + 2)
      have z3 := z (A.length * 8 + 3)
      have z4 := z (A.length * 8 + 4)
      have z6 := z (A.length * 8 + 6)
      have e1 : IntKind.i64.wrap ((K : Int) + 1) = K + 1 := IntWalk.i64_in _ (by omega)
      have e2 : IntKind.i64.wrap ((K : Int) + 1 + 1) = K + 2 := (IntWalk.i64_in _ (by omega)).trans (by omega)
      have e3 : IntKind.i64.wrap ((K : Int) + 2 + 1) = K + 3 := (IntWalk.i64_in _ (by omega)).trans (by omega)
      have e4 : IntKind.i64.wrap ((K : Int) + 3 + 1) = K + 4 := (IntWalk.i64_in _ (by omega)).trans (by omega)
      have e5 : IntKind.i64.wrap ((K : Int) + 4 + 1) = K + 5 := (IntWalk.i64_in _ (by omega)).trans (by omega)
      have e6 : IntKind.i64.wrap ((K : Int) + 5 + (q.n : Int) + 1) = K + 6 + q.n := (IntWalk.i64_in _ (by omega)).trans (by omega)
      go_wp2_with fail
      have x1 := gAt_set (f' := { q with nm := markT K }) h 0 (.string (markT K)) (by omega) rfl ⟨rfl, rfl, rfl, rfl, rfl, rfl⟩ rfl rfl
      have x2 := gAt_set (f' := { q with nm := markT K, kd := (K : Int) + 1 }) x1 1 (.int .i64 ((K : Int) + 1)) (by omega) rfl ⟨rfl, rfl, rfl, rfl, rfl, rfl⟩ rfl rfl
      have x3 := gAt_set (f' := { q with nm := markT K, kd := (K : Int) + 1, p := (K : Int) + 2 }) x2 2 (.int .i64 ((K : Int) + 2)) (by omega) rfl ⟨rfl, rfl, rfl, rfl, rfl, rfl⟩ rfl rfl
      have x4 := gAt_set (f' := { q with nm := markT K, kd := (K : Int) + 1, p := (K : Int) + 2, q := (K : Int) + 3 }) x3 3 (.int .i64 ((K : Int) + 3)) (by omega) rfl ⟨rfl, rfl, rfl, rfl, rfl, rfl⟩ rfl rfl
      have x5 : GAt D (((((W1.setCell ⟨g, A.length * 8, none⟩ (.string (markT K))).setCell ⟨g, A.length * 8 + 1, none⟩ (.int .i64 ((K : Int) + 1))).setCell ⟨g, A.length * 8 + 2, none⟩ (.int .i64 ((K : Int) + 2))).setCell ⟨g, A.length * 8 + 2 + 1, none⟩ (.int .i64 ((K : Int) + 3))).setCell ⟨g, A.length * 8 + 2 + 2, none⟩ (.int .i64 ((K : Int) + 4))) (some ⟨g, 0, none⟩) c (A ++ { q with nm := markT K, kd := (K : Int) + 1, p := (K : Int) + 2, q := (K : Int) + 3, y := (K : Int) + 4 } :: l.drop (A.length + 1)) := gAt_set x4 4 (.int .i64 ((K : Int) + 4)) (by omega) rfl ⟨rfl, rfl, rfl, rfl, rfl, rfl⟩ rfl rfl
      have hB5 : Below D w (((((W1.setCell ⟨g, A.length * 8, none⟩ (.string (markT K))).setCell ⟨g, A.length * 8 + 1, none⟩ (.int .i64 ((K : Int) + 1))).setCell ⟨g, A.length * 8 + 2, none⟩ (.int .i64 ((K : Int) + 2))).setCell ⟨g, A.length * 8 + 2 + 1, none⟩ (.int .i64 ((K : Int) + 3))).setCell ⟨g, A.length * 8 + 2 + 2, none⟩ (.int .i64 ((K : Int) + 4))) := ((((hB.setCell hg1 _).setCell hg1 _).setCell hg1 _).setCell hg1 _).setCell hg1 _
      clear x1 x2 x3 x4 h hB c0 c1 c2 c3 c4 c5 c6 c7 z z0 z1 z2 z3 z4 z6 hb1
      generalize (((((W1.setCell ⟨g, A.length * 8, none⟩ (.string (markT K))).setCell ⟨g, A.length * 8 + 1, none⟩ (.int .i64 ((K : Int) + 1))).setCell ⟨g, A.length * 8 + 2, none⟩ (.int .i64 ((K : Int) + 2))).setCell ⟨g, A.length * 8 + 2 + 1, none⟩ (.int .i64 ((K : Int) + 3))).setCell ⟨g, A.length * 8 + 2 + 2, none⟩ (.int .i64 ((K : Int) + 4))) = W5 at *
      obtain ⟨⟨y1, y2, y3⟩, y4, y5⟩ := x5.2.1 _ (List.mem_append.2 (.inr List.mem_cons_self))
      refine (markInt64S_any D q.a q.n q.c q.xs ((K : Int) + 5) W5 y1 (by omega) (by omega) (by omega)).mono ?_
      rintro e W6 ⟨rfl, o6, hg6⟩
      have x6 := gAt_xs x5 o6 hg6
      have hB6 := hB5.grown hg6 (by have := hB5.size; omega) (fun r e => (y1.lt r e).1)
      obtain ⟨c0, c1, c2, c3, c4, c5, c6, c7⟩ := gAt_cells x6 (k := A.length) (f := { q with nm := markT K, kd := (K : Int) + 1, p := (K : Int) + 2, q := (K : Int) + 3, y := (K : Int) + 4, xs := seqI ((K : Int) + 5) q.n }) (by simp)
      have z6 := x6.1.free (A.length * 8 + 6)
      clear y1 y2 y3 y4 y5 x5 hB5 o6 hg6
      simp only [] at c0 c1 c2 c3 c4 c5 c6 c7
      go_wp2_with fail
      have x7 := gAt_set (f' := { q with nm := markT K, kd := (K : Int) + 1, p := (K : Int) + 2, q := (K : Int) + 3, y := (K : Int) + 4, xs := seqI ((K : Int) + 5) q.n, co := (K : Int) + 5 + q.n }) x6 6 (.int .i64 ((K : Int) + 5 + q.n)) (by omega) rfl ⟨rfl, rfl, rfl, rfl, rfl, rfl⟩ rfl rfl
      have hB7 : Below D w (W6.setCell ⟨g, A.length * 8 + 6, none⟩ (.int .i64 ((K : Int) + 5 + q.n))) := hB6.setCell hg1 _
      clear x6 hB6 c0 c1 c2 c3 c4 c5 c6 c7 z6
      generalize (W6.setCell ⟨g, A.length * 8 + 6, none⟩ (.int .i64 ((K : Int) + 5 + q.n))) = W7 at *
      obtain ⟨⟨y1, y2, y3⟩, y4, y5⟩ := x7.2.1 _ (List.mem_append.2 (.inr List.mem_cons_self))
      refine (markInt64S_any D q.b q.m q.d q.ys ((K : Int) + 6 + q.n) W7 y2 (by omega) (by omega) (by omega)).mono ?_
      rintro e W8 ⟨rfl, o8, hg8⟩
      have x8 := gAt_ys x7 o8 hg8
      have hB8 := hB7.grown hg8 (by have := hB7.size; omega) (fun r e => (y2.lt r e).1)
      clear y1 y2 y3 y4 y5 x7 hB7 o8 hg8
      go_wp2_with fail
      go_roundw
      case rel =>
        refine ⟨A.length + 1, by omega, by go_num, ?_, ?_, hB8⟩
        · rw [hnx]; unfold nxG; push_cast; rfl
        · rw [hmk, List.append_assoc]; exact x8
      case measure => simp [intOf]; omega
    · obtain rfl : j = n := by omega
      go_wp2_with fail
      go_ret
      have ht : l.take j = l := List.take_of_length_le (by omega)
      rw [ht, List.drop_of_length_le (by omega), List.append_nil] at h
      exact ⟨by rw [ht]; rfl, h, hB⟩
theorem keepC {w w1 : World} {b i : Nat} {v : Value} (hb : Below w.drew.heap.size w.drew w1) (hlt : b < w.heap.size) (hc : w.cell? ⟨b, i, none⟩ = some v) : w1.cell? ⟨b, i, none⟩ = some v :=
  ((bcell hb).1 b i (by simpa using hlt)).trans (by simpa using hc)
set_option maxHeartbeats 2000000 in
set_option maxRecDepth 20000 in
theorem heldFamilyS_seq (D : Nat) (a : Option Addr) (c n : Nat) (l : List GF) (w : World) (h : GAt D w a c (mkL 1 l)) (hn : l.length = n) (hn0 : 0 < n) (hn1 : n ≤ 100) (hl : ∀ f ∈ l, f.n ≤ 1000 ∧ f.m ≤ 1000) :
    Calls Try.prog 48 #[.slice a n c, .int .i64 1] w (Ret (.int .i64 (nxL 1 l : Nat)) w) := by
  obtain ⟨g, rfl, hg1, hg2⟩ := h.1.form (by rw [mkL_len]; omega)
  have H := Lib.hid (fun (W : World) (hb : Below w.heap.size w W) => gAt_keep h hb)
  clear h
  go_enter Try.func48, Try.ntmps48
  go_wp2_with fail
  go_loopw [1, 5] (fun v i wr => ∃ j : Nat, j ≤ n ∧ i = .int .i64 (j : Int) ∧ v = .int .i64 (nxL 1 (l.take j) : Nat) ∧ Below w.heap.size w wr) (fun _ i _ => n - (intOf i).toNat)
  case atStart => exact ⟨0, by omega, rfl, rfl, Below.refl _ _⟩
  case round =>
    obtain ⟨j, hj, rfl, rfl, hB⟩ := hrel
    by_cases hlt : j < n
    · have hq : l[j]? = some (l[j]'(by omega)) := List.getElem?_eq_getElem _
      have htk : l.take (j + 1) = l.take j ++ [l[j]'(by omega)] := by rw [List.take_add_one, hq]; rfl
      have hk1 := nxL_ge 1 (l.take j)
      have hk2 : nxL 1 (l.take j) ≤ 1 + 2006 * (l.take j).length := nxL_le (fun f hf => hl f (List.mem_of_mem_take hf))
      have hbd := hl _ (List.mem_of_getElem? hq)
      have hnx : nxL 1 (l.take (j + 1)) = nxG (nxL 1 (l.take j)) (l[j]'(by omega)) := by rw [htk, nxL_snoc]
      have hget := mkL_get (k := 1) hq
      rw [List.length_take] at hk2
      generalize l[j]'(by omega) = q at *
      generalize hKe : nxL 1 (l.take j) = K at *
      have hl1 : (0 : Int) ≤ (j : Int) := by omega
      have hl2 : (j : Int) < (n : Int) := by omega
      have hK : K ≤ 300000 := by omega
      have h := H.out wr hB
      obtain ⟨c0, c1, c2, c3, c4, c5, c6, c7⟩ := gAt_cells h hget
      have hgr : g < wr.heap.size := by have := hB.size; omega
      have hne : ((markT K).toList != (markT K).toList) = false := by simp
      have e1 : IntKind.i64.wrap ((K : Int) + 1) = K + 1 := IntWalk.i64_in _ (by omega)
      have e2 : IntKind.i64.wrap ((K : Int) + 1 + 1) = K + 2 := (IntWalk.i64_in _ (by omega)).trans (by omega)
      have e3 : IntKind.i64.wrap ((K : Int) + 2 + 1) = K + 3 := (IntWalk.i64_in _ (by omega)).trans (by omega)
      have e4 : IntKind.i64.wrap ((K : Int) + 3 + 1) = K + 4 := (IntWalk.i64_in _ (by omega)).trans (by omega)
      have e5 : IntKind.i64.wrap ((K : Int) + 4 + 1) = K + 5 := (IntWalk.i64_in _ (by omega)).trans (by omega)
      simp only [mkG] at c0 c1 c2 c3 c4 c5 c6 c7
      have HM := Lib.hid (fun W => markText_any K W (by omega) (by omega))
      have hbz := Lib.hid hB
      clear c1 c2 c3 c4 c5 c6 c7 h
      go_wp2_with fail
      go_region_held3 (fun w' => w'.cell? ⟨g, j * 8, none⟩ = some (.string (markT K))) (first | go_keep | exact keepC hb1 hgr c0) (first | (go_at_call 87; refine (HM.out _).mono ?_; rintro e w1 ⟨rfl, hb1⟩))
      have hb2 := bt hB (((Below.refl wr.heap.size wr).drew).trans hb1)
      obtain ⟨c0, c1, c2, c3, c4, c5, c6, c7⟩ := gAt_cells (H.out w1 hb2) hget
      obtain ⟨⟨r1, r2, r3⟩, r4, r5⟩ := (H.out w1 hb2).2.1 _ (List.mem_of_getElem? hget)
      simp only [mkG] at c0 c1 c2 c3 c4 c5 c6 c7 r1 r2
      have R1 := Lib.hid (r1.rd (seqI_fits _ _ (by omega) (by omega)))
      have R2 := Lib.hid (r2.rd (seqI_fits _ _ (by omega) (by omega)))
      have e6 : IntKind.i64.wrap ((K : Int) + 5 + (q.n : Int) + 1) = K + 6 + q.n := (IntWalk.i64_in _ (by omega)).trans (by omega)
      have d1 : decide ((K : Int) + 5 + (q.n : Int) < 0) = false := by simp; omega
      have d2 : decide ((K : Int) + 6 + (q.n : Int) + (q.m : Int) < 0) = false := by simp; omega
      clear r1 r2 r3 r4 r5 hb1
      go_wp2_with fail
      refine (heldInt64S_seq q.a q.n q.c ((K : Int) + 5) _ R1.out (by omega) (by omega) (by omega)).mono ?_
      rintro e w' ⟨rfl, rfl⟩
      go_wp2_with fail
      refine (heldInt64S_seq q.b q.m q.d ((K : Int) + 6 + q.n) _ R2.out (by omega) (by omega) (by omega)).mono ?_
      rintro e w' ⟨rfl, rfl⟩
      go_wp2_with fail
      go_roundw
      case rel => exact ⟨j + 1, by omega, by go_num, by rw [hnx]; unfold nxG; push_cast; rfl, hb2⟩
      case measure => simp [intOf]; omega
    · obtain rfl : j = n := by omega
      go_wp2_with fail
      go_ret
      have ht : l.take j = l := List.take_of_length_le (by omega)
      exact ⟨by rw [ht]; rfl, hB⟩
end Go.Proofs.Ytckmenjbblgiiaa
