/-
  Contracts: the comparison of the library's lists of families in the laws.
  Conditions: both lists are the library.
-/
import Derived.Test.YtckmenjbblgiiaaFamT
set_option linter.unusedVariables false
namespace Go.Proofs.Ytckmenjbblgiiaa
open Go.RowKit Go.G8
theorem lib5_fits : ∀ f ∈ lib5, ((∀ x ∈ f.xs, fits .i64 x) ∧ (∀ x ∈ f.ys, fits .i64 x)) ∧ f.xs.length ≤ 1000 ∧ f.ys.length ≤ 1000 := by
  have h : ∀ f ∈ lib5, ((∀ x ∈ f.xs, -9223372036854775808 ≤ x ∧ x ≤ 9223372036854775807) ∧ (∀ x ∈ f.ys, -9223372036854775808 ≤ x ∧ x ≤ 9223372036854775807)) ∧ f.xs.length ≤ 1000 ∧ f.ys.length ≤ 1000 := by decide
  exact h
set_option maxHeartbeats 2000000 in
set_option maxRecDepth 20000 in
theorem eqFamilyS_lib (D1 D2 : Nat) (a1 a2 : Option Addr) (c1 c2 : Nat) (l1 l2 : List (FamV × FamD)) (w : World) (h1 : LibAt D1 w a1 c1 l1) (h2 : LibAt D2 w a2 c2 l2) (m1 : l1.map (·.1) = lib5) (m2 : l2.map (·.1) = lib5) :
    Calls Try.prog 46 #[.slice a1 5 c1, .slice a2 5 c2] w (Ret (.bool true) w) := by
  obtain ⟨g1, rfl, hg1, hl1⟩ := h1.1.form (by rw [lib5_len m1]; omega)
  obtain ⟨g2, rfl, hg2, hl2⟩ := h2.1.form (by rw [lib5_len m2]; omega)
  have H1 := Lib.hid (fun (W : World) (hb : Below w.heap.size w W) => libAt_keep h1 hb)
  have H2 := Lib.hid (fun (W : World) (hb : Below w.heap.size w W) => libAt_keep h2 hb)
  clear h1 h2
  go_enter Try.func46, Try.ntmps46
  go_wp2_with fail
  go_loopw [5] (fun i wr => ∃ j : Nat, j ≤ 5 ∧ i = .int .i64 (j : Int) ∧ Below w.heap.size w wr) (fun i _ => 5 - (intOf i).toNat)
  case atStart => exact ⟨0, by omega, rfl, Below.refl _ _⟩
  case round =>
    obtain ⟨j, hj, rfl, hB⟩ := hrel
    by_cases hlt : j < 5
    · have q1 : l1[j]? = some (l1[j]'(by rw [lib5_len m1]; exact hlt)) := List.getElem?_eq_getElem _
      have q2 : l2[j]? = some (l2[j]'(by rw [lib5_len m2]; exact hlt)) := List.getElem?_eq_getElem _
      have e12 : (l1[j]'(by rw [lib5_len m1]; exact hlt)).1 = (l2[j]'(by rw [lib5_len m2]; exact hlt)).1 := by
        have k1 : lib5[j]? = some (l1[j]'(by rw [lib5_len m1]; exact hlt)).1 := by rw [← m1, List.getElem?_map, q1]; rfl
        have k2 : lib5[j]? = some (l2[j]'(by rw [lib5_len m2]; exact hlt)).1 := by rw [← m2, List.getElem?_map, q2]; rfl
        rw [k1] at k2
        injection k2
      have hf := lib5_fits _ (show (l1[j]'(by rw [lib5_len m1]; exact hlt)).1 ∈ lib5 by rw [← m1]; exact List.mem_map_of_mem (List.mem_of_getElem? q1))
      generalize l1[j]'(by rw [lib5_len m1]; exact hlt) = r1 at *
      generalize l2[j]'(by rw [lib5_len m2]; exact hlt) = r2 at *
      obtain ⟨f, E1⟩ := r1
      obtain ⟨f2, E2⟩ := r2
      obtain rfl : f = f2 := e12
      have h1 := H1.out wr hB
      have h2 := H2.out wr hB
      obtain ⟨c0, c1', c2', c3, c4, c5, c6, c7⟩ := libAt_cells h1 q1
      obtain ⟨b0, b1, b2, b3, b4, b5, b6, b7⟩ := libAt_cells h2 q2
      obtain ⟨⟨o1, o2, -⟩, -, -⟩ := h1.2.1 _ (List.mem_of_getElem? q1)
      obtain ⟨⟨o3, o4, -⟩, -, -⟩ := h2.2.1 _ (List.mem_of_getElem? q2)
      simp only [] at c0 c1' c2' c3 c4 c5 c6 c7 b0 b1 b2 b3 b4 b5 b6 b7 o1 o2 o3 o4 hf
      have HE := Lib.hid (fun W (hb : Below wr.heap.size wr W) => eqFamily_same f.nm f.kd (rFieldOf f.sz).1.1 (rFieldOf f.sz).1.2.1 (rFieldOf f.sz).1.2.2 f.co E1.a E1.b E2.a E2.b f.xs.length E1.c f.ys.length E1.d f.xs.length E2.c f.ys.length E2.d f.xs f.ys W ((o1.rd hf.1.1).to hb) (by omega) ((o2.rd hf.1.2).to hb) (by omega) ((o3.rd hf.1.1).to hb) ((o4.rd hf.1.2).to hb))
      have hl1 : (0 : Int) ≤ (j : Int) := by omega
      have hl2 : (j : Int) < 5 := by omega
      clear o1 o2 o3 o4 h1 h2 q1 q2
      have g1r : g1 < wr.heap.size := by have := hB.size; omega
      have g2r : g2 < wr.heap.size := by have := hB.size; omega
      go_wp2_with fail
      go_region_held3 (fun w' => w'.cell? ⟨g1, j * 8, none⟩ = some (.string f.nm) ∧ w'.cell? ⟨g1, j * 8 + 1, none⟩ = some (.int .i64 f.kd) ∧ w'.cell? ⟨g1, j * 8 + 2, none⟩ = some (.int .i64 (rFieldOf f.sz).1.1) ∧ w'.cell? ⟨g1, j * 8 + 3, none⟩ = some (.int .i64 (rFieldOf f.sz).1.2.1) ∧ w'.cell? ⟨g1, j * 8 + 4, none⟩ = some (.int .i64 (rFieldOf f.sz).1.2.2) ∧ w'.cell? ⟨g1, j * 8 + 5, none⟩ = some (.slice E1.a f.xs.length E1.c) ∧ w'.cell? ⟨g1, j * 8 + 6, none⟩ = some (.int .i64 f.co) ∧ w'.cell? ⟨g1, j * 8 + 7, none⟩ = some (.slice E1.b f.ys.length E1.d) ∧ w'.cell? ⟨g2, j * 8, none⟩ = some (.string f.nm) ∧ w'.cell? ⟨g2, j * 8 + 1, none⟩ = some (.int .i64 f.kd) ∧ w'.cell? ⟨g2, j * 8 + 2, none⟩ = some (.int .i64 (rFieldOf f.sz).1.1) ∧ w'.cell? ⟨g2, j * 8 + 3, none⟩ = some (.int .i64 (rFieldOf f.sz).1.2.1) ∧ w'.cell? ⟨g2, j * 8 + 4, none⟩ = some (.int .i64 (rFieldOf f.sz).1.2.2) ∧ w'.cell? ⟨g2, j * 8 + 5, none⟩ = some (.slice E2.a f.xs.length E2.c) ∧ w'.cell? ⟨g2, j * 8 + 6, none⟩ = some (.int .i64 f.co) ∧ w'.cell? ⟨g2, j * 8 + 7, none⟩ = some (.slice E2.b f.ys.length E2.d)) (first | go_keep | exact ⟨keepC hb1 g1r c0, keepC hb1 g1r c1', keepC hb1 g1r c2', keepC hb1 g1r c3, keepC hb1 g1r c4, keepC hb1 g1r c5, keepC hb1 g1r c6, keepC hb1 g1r c7, keepC hb1 g2r b0, keepC hb1 g2r b1, keepC hb1 g2r b2, keepC hb1 g2r b3, keepC hb1 g2r b4, keepC hb1 g2r b5, keepC hb1 g2r b6, keepC hb1 g2r b7⟩) (first | (go_at_call 39; refine (HE.out _ (Below.refl wr.heap.size wr).drew).mono ?_; rintro e w1 ⟨rfl, hb1⟩))
      have hb2 := bt hB (((Below.refl wr.heap.size wr).drew).trans hb1)
      go_wp2_with fail
      go_roundw
      case rel => exact ⟨j + 1, by omega, by go_num, hb2⟩
      case measure => simp [intOf]; omega
    · obtain rfl : j = 5 := by omega
      go_wp2_with fail
      go_ret
      exact ⟨rfl, hB⟩
end Go.Proofs.Ytckmenjbblgiiaa
