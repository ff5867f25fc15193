/-
  Contract: the table of best cells: what is asked of its rows.
  Conditions: messages of at most 1000 bytes.
-/
import Derived.Test.YtnajjofaijpciaaMg35
set_option linter.unusedVariables false
namespace Go.Proofs.Ytnajjofaijpciaa
open Go.RowKit Go.G8
set_option maxHeartbeats 4000000 in
set_option maxRecDepth 20000 in
theorem l10Table_any (s : ByteArray) (n : Nat) (w : World) (hs : s.size = n) (hn : n ≤ 1000) :
    Calls Try.prog 89 #[.string s] w (fun e w' => ∃ (a : Option Addr) (c : Nat) (T : List CellT), e = .returned (.slice a (n + 1) c) ∧ OwV 121 4 w.heap.size w' a (n + 1) c (T.flatMap cC) ∧ TabC n 0 T ∧ Below w.heap.size w w') := by
  obtain ⟨i0, hi, hz0, hz1, hz2⟩ := info_parts info_cell
  subst hs
  have e1 : IntKind.i64.wrap ((s.size : Int) + 1) = ((s.size + 1 : Nat) : Int) := (IntWalk.i64_in _ (by omega)).trans (by omega)
  go_enter Try.func89, Try.ntmps89
  go_wp2_with (at_make; refine wpList_make_full _ rfl _ _ 122 rfl w.heap.size 121 i0 (.agg #[.int .i64 0, .int .i64 0, .int .i64 0, .int .i64 0]) 4 Try.underlying122 hi hz0 hz1 .i64 .i64 _ _ (s.size + 1) rfl rfl rfl rfl (by rw [hz2]; omega) (by unfold maxLen; omega) (Nat.le_refl _) ?_; intro w1 hown1 hg1)
  have hown0 : OwV 121 4 w.heap.size w1 (some ⟨w.heap.size, 0, none⟩) (s.size + 1) (s.size + 1) ((List.replicate (s.size + 1) zC).flatMap cC) := by rw [← made_cells]; exact hown1
  have HB1 := Lib.hid ((Below.refl w.heap.size w).grown hg1 (Nat.le_refl _) (by simp))
  clear hown1 hg1
  go_loopw [5] (fun i wr => ∃ (m : Nat) (T : List CellT), m ≤ s.size ∧ i = .int .i64 ((m : Int) - 1) ∧ OwV 121 4 w.heap.size wr (some ⟨w.heap.size, 0, none⟩) (s.size + 1) (s.size + 1) (T.flatMap cC) ∧ TabC s.size m T ∧ Below w.heap.size w wr) (fun i _ => ((intOf i) + 1).toNat)
  case atStart => exact ⟨s.size, _, Nat.le_refl _, rfl, hown0, ⟨by simp, fun j h1 h2 => by omega, by rw [List.getElem?_replicate, if_pos (by omega)]⟩, HB1.out⟩
  case round =>
    clear hown0
    obtain ⟨m, T, hm, rfl, hown, hT, hB⟩ := hrel
    rcases m with _ | i
    · go_wp2_with fail
      go_ret
      exact ⟨_, _, T, rfl, hown, hT, hB⟩
    · rw [show ((i + 1 : Nat) : Int) - 1 = (i : Int) by omega]
      go_wp2_with fail
      go_loopw [6, 7] (fun f md wr => ∃ (T : List CellT) (fnd : Bool) (M : Nat), f = .bool fnd ∧ md = .int .i64 M ∧ (1 ≤ M ∧ M ≤ 5) ∧ OwV 121 4 w.heap.size wr (some ⟨w.heap.size, 0, none⟩) (s.size + 1) (s.size + 1) (T.flatMap cC) ∧ TabC s.size (i + 1) T ∧ (fnd = true → ∃ c, T[i]? = some c ∧ goodC s.size i c) ∧ (fnd = false → M ≤ 4) ∧ Below w.heap.size w wr) (fun _ md _ => 5 - (intOf md).toNat)
      case atStart => exact ⟨T, false, 1, rfl, rfl, by omega, hown, hT, (fun e => by cases e), (fun _ => by omega), hB⟩
      case round =>
        clear hown hT hB
        obtain ⟨T, fnd, M, rfl, rfl, hM, hown, hT, hf1, hf2, hB⟩ := hrel
        by_cases hM5 : M = 5
        · subst hM5
          cases fnd with
          | false => exact absurd (hf2 rfl) (by omega)
          | true =>
            obtain ⟨c, hc, hg⟩ := hf1 rfl
            go_wp2_with fail
            refine ⟨⟨i, T, by omega, by go_num, hown, hT.step hc hg, hB⟩, by simp [intOf]⟩
        · have hM4 : M ≤ 4 := by omega
          have hdm : decide ((M : Int) ≤ 4) = true := by rw [decide_eq_true_eq]; omega
          go_wp2_with fail
          go_loopw [6, 8] (fun f sz wr => ∃ (T : List CellT) (fnd : Bool) (z : Nat), f = .bool fnd ∧ sz = .int .i64 z ∧ (1 ≤ z ∧ z ≤ 256) ∧ OwV 121 4 w.heap.size wr (some ⟨w.heap.size, 0, none⟩) (s.size + 1) (s.size + 1) (T.flatMap cC) ∧ TabC s.size (i + 1) T ∧ (fnd = true → ∃ c, T[i]? = some c ∧ goodC s.size i c) ∧ (fnd = false → M < 4 ∨ z = 1) ∧ Below w.heap.size w wr) (fun _ sz _ => 256 - (intOf sz).toNat)
          case atStart => exact ⟨T, fnd, 1, rfl, rfl, by omega, hown, hT, hf1, (fun _ => .inr rfl), hB⟩
          case round =>
            clear hown hT hf1 hf2 hB
            obtain ⟨T, fnd, z, rfl, rfl, hz, hown, hT, hf1, hf2, hB⟩ := hrel
            have ew : IntKind.i64.wrap ((i : Int) + (z : Int)) = (i : Int) + (z : Int) := IntWalk.i64_in _ (by omega)
            have hmode : ∀ (h : fnd = false → M < 4), (fnd = true → ∃ c, T[i]? = some c ∧ goodC s.size i c) → True := fun _ _ => trivial
            clear hmode
            by_cases hz5 : z ≤ 255
            · have hdz : decide ((z : Int) ≤ 255) = true := by rw [decide_eq_true_eq]; omega
              by_cases hzs : i + z ≤ s.size
              · have hds : decide ((i : Int) + (z : Int) ≤ (s.size : Int)) = true := by rw [decide_eq_true_eq]; omega
                have ew2 : IntKind.i64.wrap ((i : Int) + (z : Int) - 1) = ((i + z - 1 : Nat) : Int) := (IntWalk.i64_in _ (by omega)).trans (by omega)
                obtain ⟨x, hsx, hx, hx1, hx2⟩ := str_at s (i + z - 1) (by omega)
                have HCV := Lib.hid (fun W => charValue_any M x W (by omega) (by omega))
                go_wp2_with fail
                refine (HCV.out _).mono ?_
                rintro e w2 ⟨r, rfl, hr, hr4, hb2⟩
                replace hown := hown.keep hb2
                replace hB := bt hB hb2
                clear hb2
                by_cases hneg : r < 0
                · have hdn : decide (r < 0) = true := by rw [decide_eq_true_eq]; exact hneg
                  have hf3 : fnd = false → M + 1 ≤ 4 := fun e => by
                    by_cases h4 : M = 4
                    · have := hr4 (by omega); omega
                    · omega
                  go_wp2_with fail
                  refine ⟨⟨T, fnd, M + 1, rfl, by go_num, by omega, hown, hT, hf1, hf3, hB⟩, by simp [intOf]; omega⟩
                · have hdn : decide (r < 0) = false := by rw [decide_eq_false_iff_not]; exact hneg
                  obtain ⟨q, hq, hq1, hq2⟩ := hT.bd (j := i + z) (by omega) hzs
                  obtain ⟨c0, c1, c2, c3⟩ := ownC_cells hown hq
                  have hl0 : (0 : Int) ≤ (i : Int) + (z : Int) := by omega
                  have hl1 : (i : Int) + (z : Int) < ((s.size + 1 : Nat) : Int) := by omega
                  have HLen := Lib.hid (fun W => l09Length_any M z W (by omega) (by omega))
                  obtain ⟨hg0, hg1⟩ := gLen_bd (m := (M : Int)) (by omega) hz5
                  obtain ⟨G, hG⟩ : ∃ G, gLen M z = G := ⟨_, rfl⟩
                  rw [hG] at HLen hg0 hg1
                  have hA3 := Below.alloc (Below.refl w2.heap.size w2) (Nat.le_refl _) (.cells #[.int .i64 q.ln, .int .i64 q.ct, .int .i64 q.sz, .int .i64 q.md] 121)
                  have HREST := Lib.hid (fun W (hb : Below (w2.alloc (.cells #[.int .i64 q.ln, .int .i64 q.ct, .int .i64 q.sz, .int .i64 q.md] 121)).heap.size (w2.alloc (.cells #[.int .i64 q.ln, .int .i64 q.ct, .int .i64 q.sz, .int .i64 q.md] 121)) W) => (show W.cell? ⟨w2.heap.size, 0, none⟩ = some (.int .i64 q.ln) ∧ W.cell? ⟨w2.heap.size, 1, none⟩ = some (.int .i64 q.ct) from by
                    refine ⟨((bcell hb).1 _ 0 (by simp)).trans ?_, ((bcell hb).1 _ 1 (by simp)).trans ?_⟩ <;> (rw [cell_of_row _ _ _ _ _ (0, 0) (heap_alloc_new w2 _)]; rfl)))
                  have ew3 : IntKind.i64.wrap (G + q.ln) = G + q.ln := IntWalk.i64_in _ (by omega)
                  have ew4 : IntKind.i64.wrap (q.ct + 1) = q.ct + 1 := IntWalk.i64_in _ (by omega)
                  go_wp2_with fail
                  have hs1 : w2.heap.size < w2.heap.size + 1 := by omega
                  have hs2 : w2.heap.size < w2.heap.size + 1 + 1 := by omega
                  go_region_held3 (fun w' => w'.cell? ⟨w2.heap.size, 0, none⟩ = some (.int .i64 q.ln) ∧ w'.cell? ⟨w2.heap.size, 1, none⟩ = some (.int .i64 q.ct)) (first | go_keep | exact HREST.out _ (Below.refl _ _) | exact HREST.out _ (Below.refl _ _).drew | exact HREST.out _ hb6 | exact HREST.out _ (below_allocdrew _ _) | exact HREST.out _ (bt hb6 (Below.alloc (Below.refl _ _) (Nat.le_refl _) _)) | exact HREST.out _ (below_set4 hb6 (by simp) _ _ _ _)) (first | (go_at_call 54; refine (HLen.out _).mono ?_; rintro e w5 ⟨rfl, hb5⟩; first | (have hb6 := bt (w := (w2.alloc (.cells #[.int .i64 q.ln, .int .i64 q.ct, .int .i64 q.sz, .int .i64 q.md] 121))) (Below.refl _ _).drew hb5; obtain ⟨r0, r1⟩ := HREST.out _ hb6; have hlt5 : w2.heap.size < w5.heap.size := Nat.lt_of_lt_of_le (by simp) hb6.size) | (have hb6 := bt (w := (w2.alloc (.cells #[.int .i64 q.ln, .int .i64 q.ct, .int .i64 q.sz, .int .i64 q.md] 121))) (below_allocdrew _ _) hb5; obtain ⟨r0, r1⟩ := HREST.out _ hb6; have hlt5 : w2.heap.size < w5.heap.size := Nat.lt_of_lt_of_le (by simp) hb6.size; have hZ := zeros4 hb5 (b := w2.heap.size + 1) (by simp); obtain ⟨x0, x1, x2, x3, x4, x5⟩ := hZ)))
                  all_goals (
                    first
                    | (obtain ⟨W6, X, hW6, hX6, HS, HB6, hXw⟩ : ∃ W6 X, w5.alloc (.cells #[.int .i64 (G + q.ln), .int .i64 (q.ct + 1), .int .i64 z, .int .i64 M] 121) = W6 ∧ w5.heap.size = X ∧ Slot4 W6 X (.int .i64 (G + q.ln)) (.int .i64 (q.ct + 1)) (.int .i64 z) (.int .i64 M) ∧ Below w2.heap.size w2 W6 ∧ w2.heap.size ≤ X := ⟨_, _, rfl, rfl, Slot4.new w5 _ _ _ _ _, bt (bt hA3 hb6) (Below.alloc (Below.refl _ _) (Nat.le_refl _) _), Nat.le_of_lt hlt5⟩; rw [hW6, hX6])
                    | (obtain ⟨W6, X, hW6, hX6, HS, HB6, hXw⟩ : ∃ W6 X, ((((w5.setCell ⟨w2.heap.size + 1, 0, none⟩ (.int .i64 (G + q.ln))).setCell ⟨w2.heap.size + 1, 1, none⟩ (.int .i64 (q.ct + 1))).setCell ⟨w2.heap.size + 1, 2, none⟩ (.int .i64 z)).setCell ⟨w2.heap.size + 1, 3, none⟩ (.int .i64 M)) = W6 ∧ w2.heap.size + 1 = X ∧ Slot4 W6 X (.int .i64 (G + q.ln)) (.int .i64 (q.ct + 1)) (.int .i64 z) (.int .i64 M) ∧ Below w2.heap.size w2 W6 ∧ w2.heap.size ≤ X := ⟨_, _, rfl, rfl, Slot4.set w5 ⟨x0, x1, x2, x3, x4, x5⟩ _ _ _ _, below_set4 (bt hA3 hb6) (by omega) _ _ _ _, by omega⟩; rw [hW6, hX6])
                    clear hW6 hX6 hb5 hb6 r0 r1 hlt5 HREST hA3 hs1 hs2
                    have hown6 := hown.keep HB6
                    have hB6 := bt hB HB6
                    have hgw := (hown.lt w.heap.size rfl).2
                    have hgX : w.heap.size ≠ X := by omega
                    have hXg : X ≠ w.heap.size := by omega
                    have hTl := hT.len
                    obtain ⟨ci, hci⟩ : ∃ ci, T[i]? = some ci := ⟨_, List.getElem?_eq_getElem (by omega)⟩
                    obtain ⟨k0, k1, k2, k3⟩ := ownC_cells hown6 hci
                    have kz := hown6.free
                    have z0 := kz (i * 4)
                    have z1 := kz (i * 4 + 1)
                    have z2 := kz (i * 4 + 2)
                    have z3 := kz (i * 4 + 3)
                    obtain ⟨x0, x1, x2, x3, x4, x5⟩ := HS
                    have hi0 : (0 : Int) ≤ (i : Int) := by omega
                    have hi1 : (i : Int) < ((s.size + 1 : Nat) : Int) := by omega
                    clear c0 c1 c2 c3
                    have hgood : goodC s.size i ⟨G + q.ln, q.ct + 1, z, M⟩ := ⟨⟨show (1 : Int) ≤ (z : Int) by omega, show (z : Int) ≤ 255 by omega, show (i : Int) + (z : Int) ≤ (s.size : Int) by omega⟩, ⟨show (1 : Int) ≤ (M : Int) by omega, show (M : Int) ≤ 4 by omega⟩, ⟨show 0 ≤ G + q.ln by omega, show G + q.ln ≤ 100000 * ((s.size : Int) - (i : Int)) by omega⟩, show 0 ≤ q.ct + 1 by omega, show q.ct + 1 ≤ (s.size : Int) - (i : Int) by omega⟩
                    have hi2 : (i : Int) < (s.size : Int) + 1 := by omega
                    cases fnd with
                    | false =>
                      go_wp2_with fail
                      go_quiet (fail)
                      have hown7 := hown6.keep (below_drewN (Below.refl W6.heap.size W6) nq)
                      have hset := ownC_set hown7 (i := i) (by omega) ⟨G + q.ln, q.ct + 1, z, M⟩
                      have HSET := Lib.hid hset
                      clear hset hown7
                      go_wp2_with fail
                      refine ⟨⟨T.set i ⟨G + q.ln, q.ct + 1, z, M⟩, true, z + 1, rfl, by go_num, by omega, HSET.out, hT.set (by omega) _, fun _ => ⟨_, List.getElem?_set_self (by omega), hgood⟩, (fun e => by cases e), ((((below_drewN hB6 nq).setCell (Nat.le_refl _) _).setCell (Nat.le_refl _) _).setCell (Nat.le_refl _) _).setCell (Nat.le_refl _) _⟩, by simp [intOf]; omega⟩
                    | true =>
                      have HBt := Lib.hid (fun W => l10Better_any (G + q.ln) (q.ct + 1) z M ci.ln ci.ct ci.sz ci.md W)
                      have hXY := Lib.hid (fun W (hb : Below W6.heap.size W6 W) => (show (W.cell? ⟨X, 0, none⟩ = some (.int .i64 (G + q.ln)) ∧ W.cell? ⟨X, 1, none⟩ = some (.int .i64 (q.ct + 1)) ∧ W.cell? ⟨X, 2, none⟩ = some (.int .i64 z) ∧ W.cell? ⟨X, 3, none⟩ = some (.int .i64 M)) ∧ (W.cell? ⟨w.heap.size, i * 4, none⟩ = some (.int .i64 ci.ln) ∧ W.cell? ⟨w.heap.size, i * 4 + 1, none⟩ = some (.int .i64 ci.ct) ∧ W.cell? ⟨w.heap.size, i * 4 + 2, none⟩ = some (.int .i64 ci.sz) ∧ W.cell? ⟨w.heap.size, i * 4 + 3, none⟩ = some (.int .i64 ci.md)) from
                        have hg6 := (hown6.lt w.heap.size rfl).2
                        ⟨⟨((bcell hb).1 _ 0 x0).trans x1, ((bcell hb).1 _ 1 x0).trans x2, ((bcell hb).1 _ 2 x0).trans x3, ((bcell hb).1 _ 3 x0).trans x4⟩, ((bcell hb).1 _ _ hg6).trans k0, ((bcell hb).1 _ _ hg6).trans k1, ((bcell hb).1 _ _ hg6).trans k2, ((bcell hb).1 _ _ hg6).trans k3⟩))
                      go_wp2_with fail
                      go_region_held3 (fun w' => (w'.cell? ⟨X, 0, none⟩ = some (.int .i64 (G + q.ln)) ∧ w'.cell? ⟨X, 1, none⟩ = some (.int .i64 (q.ct + 1)) ∧ w'.cell? ⟨X, 2, none⟩ = some (.int .i64 z) ∧ w'.cell? ⟨X, 3, none⟩ = some (.int .i64 M)) ∧ (w'.cell? ⟨w.heap.size, i * 4, none⟩ = some (.int .i64 ci.ln) ∧ w'.cell? ⟨w.heap.size, i * 4 + 1, none⟩ = some (.int .i64 ci.ct) ∧ w'.cell? ⟨w.heap.size, i * 4 + 2, none⟩ = some (.int .i64 ci.sz) ∧ w'.cell? ⟨w.heap.size, i * 4 + 3, none⟩ = some (.int .i64 ci.md))) (first | go_keep | exact hXY.out _ (Below.refl _ _) | exact hXY.out _ (Below.refl _ _).drew | exact hXY.out _ hb8) (first | (go_at_call 96; refine (HBt.out _).mono ?_; rintro e w8 ⟨rb, rfl, hb8⟩; replace hb8 := bt (w := W6) (by first | exact Below.refl _ _ | exact (Below.refl _ _).drew) hb8))
                      all_goals (
                        have hown8 := hown6.keep hb8
                        have hB8 := bt hB6 hb8
                        obtain ⟨⟨x1, x2, x3, x4⟩, k0, k1, k2, k3⟩ := hXY.out _ hb8
                        have kz8 := hown8.free
                        have z0 := kz8 (i * 4)
                        have z1 := kz8 (i * 4 + 1)
                        have z2 := kz8 (i * 4 + 2)
                        have z3 := kz8 (i * 4 + 3)
                        have HSET := Lib.hid (ownC_set hown8 (i := i) (by omega) ⟨G + q.ln, q.ct + 1, z, M⟩)
                        have HO8 := Lib.hid hown8
                        clear hown8
                        cases rb with
                        | true =>
                          go_wp2_with fail
                          refine ⟨⟨T.set i ⟨G + q.ln, q.ct + 1, z, M⟩, true, z + 1, rfl, by go_num, by omega, HSET.out, hT.set (by omega) _, fun _ => ⟨_, List.getElem?_set_self (by omega), hgood⟩, (fun e => by cases e), (((hB8.setCell (Nat.le_refl _) _).setCell (Nat.le_refl _) _).setCell (Nat.le_refl _) _).setCell (Nat.le_refl _) _⟩, by simp [intOf]; omega⟩
                        | false =>
                          go_wp2_with fail
                          refine ⟨⟨T, true, z + 1, rfl, by go_num, by omega, HO8.out, hT, (fun _ => hf1 trivial), (fun e => by cases e), hB8⟩, by simp [intOf]; omega⟩))
              · have hds : decide ((i : Int) + (z : Int) ≤ (s.size : Int)) = false := by rw [decide_eq_false_iff_not]; omega
                have hf3 : fnd = false → M + 1 ≤ 4 := fun e => by rcases hf2 e with h | h <;> omega
                go_wp2_with fail
                refine ⟨⟨T, fnd, M + 1, rfl, by go_num, by omega, hown, hT, hf1, hf3, hB⟩, by simp [intOf]; omega⟩
            · have hdz : decide ((z : Int) ≤ 255) = false := by rw [decide_eq_false_iff_not]; omega
              have hf3 : fnd = false → M + 1 ≤ 4 := fun e => by rcases hf2 e with h | h <;> omega
              go_wp2_with fail
              refine ⟨⟨T, fnd, M + 1, rfl, by go_num, by omega, hown, hT, hf1, hf3, hB⟩, by simp [intOf]; omega⟩
end Go.Proofs.Ytnajjofaijpciaa
