/-
  Contracts: the grids that the reference draws.
  Conditions: codes of at most 4096 bytes.
-/
import Derived.Test.YtckmenjbblgiiaaDrawB
import Derived.Test.YtckmenjbblgiiaaGridD
set_option linter.unusedVariables false
namespace Go.Proofs.Ytckmenjbblgiiaa
open Go.RowKit Go.G8
/-- A grid of the call's own, from block w.heap.size on; the source is kept. -/
def DrawnGr (B S : Nat) (w : World) (e : Ending) (w' : World) : Prop :=
  ∃ (r c : Int) (a : Option Addr) (n k : Nat) (xs : List Int), e = .returned (.agg #[.int .i64 r, .int .i64 c, .slice a n k]) ∧ (-1 ≤ r ∧ r ≤ 40001) ∧ (1 ≤ c ∧ c ≤ 9) ∧ n ≤ 100 ∧ sm xs ∧ Ow .i64 2 w.heap.size w' a n k xs ∧ Src B w' S ∧ w.grownBy w' (some S)
/-- A block of three values that may be written. -/
def BlkV (O : Nat) (x0 x1 x2 : Value) (w : World) : Prop :=
  O < w.heap.size ∧ w.cell? ⟨O, 0, none⟩ = some x0 ∧ w.cell? ⟨O, 1, none⟩ = some x1 ∧ w.cell? ⟨O, 2, none⟩ = some x2 ∧ ∀ i, w.frozen? ⟨O, i, none⟩ = false
theorem BlkV.grown {O : Nat} {x0 x1 x2 : Value} {w w' : World} {row : Option Nat} (h : BlkV O x0 x1 x2 w) (hg : w.grownBy w' row) (hne : some O ≠ row) : BlkV O x0 x1 x2 w' := by
  obtain ⟨h1, h2, h3, h4, h5⟩ := h
  have hs := hg.size
  have hb := hg.block O h1 hne
  exact ⟨by omega, (World.cell?_of_block (a := ⟨O, 0, none⟩) hb).trans h2, (World.cell?_of_block (a := ⟨O, 1, none⟩) hb).trans h3, (World.cell?_of_block (a := ⟨O, 2, none⟩) hb).trans h4, fun i => (World.frozen?_of_block (a := ⟨O, i, none⟩) hb).trans (h5 i)⟩
theorem BlkV.under {O D : Nat} {x0 x1 x2 : Value} {w w' : World} (h : BlkV O x0 x1 x2 w) (hb : Below D w w') (hO : O < D) : BlkV O x0 x1 x2 w' := by
  obtain ⟨h1, h2, h3, h4, h5⟩ := h
  have hs := hb.size
  exact ⟨by omega, (hb.cell (p := ⟨O, 0, none⟩) hO).trans h2, (hb.cell (p := ⟨O, 1, none⟩) hO).trans h3, (hb.cell (p := ⟨O, 2, none⟩) hO).trans h4, fun i => (hb.frozen (p := ⟨O, i, none⟩) hO).trans (h5 i)⟩
theorem BlkV.new (w : World) (x0 x1 x2 : Value) (T : TypeId) : BlkV w.heap.size x0 x1 x2 (w.alloc (.cells #[x0, x1, x2] T)) := by
  refine ⟨by simp, ?_, ?_, ?_, fun i => ?_⟩
  · rw [cell_of_row _ _ _ _ _ (0, 0) (heap_alloc_new w _)]; rfl
  · rw [cell_of_row _ _ _ _ _ (0, 0) (heap_alloc_new w _)]; rfl
  · rw [cell_of_row _ _ _ _ _ (0, 0) (heap_alloc_new w _)]; rfl
  · rw [frozen_of_row _ _ _ _ _ (heap_alloc_new w _)]
theorem drawn_end {B S D : Nat} {w w3 : World} {a : Option Addr} {n k : Nat} {xs : List Int} {v0 v1 v2 : Value} (r c : Int) (hR : BlkV w.heap.size v0 v1 v2 w3) (ho : Ow .i64 2 D w3 a n k xs) (hD : w.heap.size < D) (hS : Src B w3 S) (hSR : S ≠ w.heap.size) (hBR : B ≤ w.heap.size) (hK : w.grownBy w3 (some S))
    (hr : -1 ≤ r ∧ r ≤ 40001) (hc : 1 ≤ c ∧ c ≤ 9) (hn : n ≤ 100) (hsm : sm xs) :
    (((w3.setCell ⟨w.heap.size, 0, none⟩ (.int .i64 r)).setCell ⟨w.heap.size, 1, none⟩ (.int .i64 c)).setCell ⟨w.heap.size, 2, none⟩ (.slice a n k)).cell? ⟨w.heap.size, 0, none⟩ = some (.int .i64 r) ∧
    (((w3.setCell ⟨w.heap.size, 0, none⟩ (.int .i64 r)).setCell ⟨w.heap.size, 1, none⟩ (.int .i64 c)).setCell ⟨w.heap.size, 2, none⟩ (.slice a n k)).cell? ⟨w.heap.size, 1, none⟩ = some (.int .i64 c) ∧
    (((w3.setCell ⟨w.heap.size, 0, none⟩ (.int .i64 r)).setCell ⟨w.heap.size, 1, none⟩ (.int .i64 c)).setCell ⟨w.heap.size, 2, none⟩ (.slice a n k)).cell? ⟨w.heap.size, 2, none⟩ = some (.slice a n k) ∧
    DrawnGr B S w (.returned (.agg #[.int .i64 r, .int .i64 c, .slice a n k])) (((w3.setCell ⟨w.heap.size, 0, none⟩ (.int .i64 r)).setCell ⟨w.heap.size, 1, none⟩ (.int .i64 c)).setCell ⟨w.heap.size, 2, none⟩ (.slice a n k)) := by
  obtain ⟨h1, h2, h3, h4, h5⟩ := hR
  obtain ⟨e0, e1, e2, e3⟩ := set3v w3 w.heap.size (.int .i64 r) (.int .i64 c) (.slice a n k) h2 h3 h4
  refine ⟨e0, e1, e2, r, c, a, n, k, xs, rfl, hr, hc, hn, hsm, (ho.kept e3 (fun g e => by injection e; omega)).more (by omega), src_sep hS e3 (fun e => hSR e.symm) hBR, keeps_new hK e3 (Nat.le_refl _)⟩
set_option maxHeartbeats 2000000 in
set_option maxRecDepth 20000 in
theorem l14DrawGrid_any (B S : Nat) (w : World) (h : Src B w S) :
    Calls Try.prog 105 #[.pointer (some ⟨S, 0, none⟩)] w (DrawnGr B S w) := by
  obtain ⟨i0, hi, hz0, hz1, hz2⟩ := info_parts info_int64
  have hSw := (Src_le h).2.2
  have hBw := (Src_le h).2.1
  go_enter Try.func105, Try.ntmps105
  have hR := BlkV.new w (.int .i64 0) (.int .i64 0) (.slice none 0 0) 41
  have hal := Below.alloc (Below.refl w.heap.size w) (Nat.le_refl _) (.cells #[.int .i64 0, .int .i64 0, .slice none 0 0] 41)
  have HS := src_keep h hal
  have HK := keeps_below (S := S) hal
  go_wp2_with fail
  generalize (w.alloc (.cells #[.int .i64 0, .int .i64 0, .slice none 0 0] 41)) = W0 at *
  refine (l01Next_any _ S 6 _ HS (by decide)).mono ?_
  rintro e w1 ⟨r, rfl, hr0, hr1, hS1, hg1⟩
  replace hR := hR.grown hg1 (fun e => by injection e; omega)
  have hK1 := keeps_trans HK hg1
  clear hg1 HS HK hal h
  go_wp2_with fail
  refine (l01Next_any _ S 6 _ hS1 (by decide)).mono ?_
  rintro e w2 ⟨q, rfl, hq0, hq1, hS2, hg2⟩
  replace hR := hR.grown hg2 (fun e => by injection e; omega)
  have hK2 := keeps_trans hK1 hg2
  have hs2 := hK2.size
  clear hg2 hS1 hK1
  obtain ⟨P, hP⟩ : ∃ P : Nat, (1 + r) * (1 + q) = (P : Int) := Int.eq_ofNat_of_zero_le (Int.mul_nonneg (by omega) (by omega))
  have hP1 : 1 ≤ P ∧ P ≤ 36 := by
    have h1 := Int.mul_le_mul (show (1 : Int) ≤ 1 + r by omega) (show (1 : Int) ≤ 1 + q by omega) (by omega) (by omega)
    have h2 := Int.mul_le_mul (show 1 + r ≤ 6 by omega) (show 1 + q ≤ 6 by omega) (by omega) (by omega)
    omega
  have ew : IntKind.i64.wrap ((1 + r) * (1 + q)) = (P : Int) := by rw [hP]; exact IntWalk.i64_in _ (by omega)
  clear hP
  have hne : w.heap.size < w2.heap.size := hR.1
  have hG := BlkV.new w2 (.int .i64 (1 + r)) (.int .i64 (1 + q)) (.slice none 0 0) 41
  have hal := Below.alloc (Below.refl w2.heap.size w2) (Nat.le_refl _) (.cells #[.int .i64 (1 + r), .int .i64 (1 + q), .slice none 0 0] 41)
  have hS3 := src_keep hS2 hal
  have hK3 := keeps_trans hK2 (keeps_below (S := S) hal)
  replace hR := hR.under hal hR.1
  have hs3 : (w2.alloc (.cells #[.int .i64 (1 + r), .int .i64 (1 + q), .slice none 0 0] 41)).heap.size = w2.heap.size + 1 := by simp
  go_wp2_with fail
  generalize (w2.alloc (.cells #[.int .i64 (1 + r), .int .i64 (1 + q), .slice none 0 0] 41)) = W3 at *
  have hE : Ow .i64 2 W3.heap.size (W3.alloc (.cells #[] 2)) (some ⟨W3.heap.size, 0, none⟩) 0 0 [] := Ow.empty _ _ _ W3 (Nat.le_refl _)
  have hal3 := Below.alloc (Below.refl W3.heap.size W3) (Nat.le_refl _) (.cells #[] 2)
  have hS4 := src_keep hS3 hal3
  have hK4 := keeps_trans hK3 (keeps_below (S := S) hal3)
  have hR4 := hR.under hal3 hR.1
  have hG4 := hG.under hal3 hG.1
  have hSD : S < W3.heap.size := by omega
  have hBD : B ≤ W3.heap.size := by omega
  have hwD : w.heap.size ≤ W3.heap.size := by omega
  have hRD : w.heap.size < W3.heap.size := by omega
  have hGD : w2.heap.size < W3.heap.size := by omega
  have hSG : S ≠ w2.heap.size := by omega
  have hSR : S ≠ w.heap.size := by omega
  clear hR hG hal hal3 hS3 hK3 hS2 hK2
  go_loopw [4, 5] (fun l i wr => ∃ (m : Nat) (a' : Option Addr) (c' : Nat) (ys : List Int), m ≤ P ∧ i = .int .i64 (m : Int) ∧ l = .slice a' m c' ∧ sm ys ∧ Ow .i64 2 W3.heap.size wr a' m c' ys ∧ Src B wr S ∧ w.grownBy wr (some S) ∧ BlkV w.heap.size (.int .i64 0) (.int .i64 0) (.slice none 0 0) wr ∧ BlkV w2.heap.size (.int .i64 (1 + r)) (.int .i64 (1 + q)) (.slice none 0 0) wr ∧ W3.heap.size ≤ wr.heap.size) (fun _ i _ => P - (intOf i).toNat)
  case atStart => exact ⟨0, _, 0, [], by omega, rfl, rfl, (fun x hx => by simp at hx), (by rw [← hs3]; exact hE), hS4, hK4, hR4, hG4, by simp⟩
  case round =>
    clear hE hS4 hK4 hR4 hG4
    obtain ⟨m, a', c', ys, hm, rfl, rfl, hsm, ho, hS, hK, hR, hG, hD⟩ := hrel
    obtain ⟨g1, g2, g3, g4, g5⟩ := id hG
    by_cases hlt : m < P
    · go_wp2_with fail
      refine (l01Next_any _ S 3 _ hS (by decide)).mono ?_
      rintro e w4 ⟨x, rfl, hx0, hx1, hS4, hg4⟩
      have ho4 := ow_apart ho hSD hg4
      have hK4 := keeps_trans hK hg4
      have hR4 := hR.grown hg4 (fun e => by injection e with e; exact hSR e.symm)
      have hG4 := hG.grown hg4 (fun e => by injection e with e; exact hSG e.symm)
      have hD4 : W3.heap.size ≤ w4.heap.size := Nat.le_trans hD hg4.size
      clear hg4 hS hK hR hG ho g1 g2 g3 g4 g5
      go_wp2_with (at_builtin; refine wpList_push .i64 _ rfl _ _ 25 rfl W3.heap.size 2 _ i0 8 Try.underlying25 hi hz0 hz1 hz2 (by omega) a' m c' ys _ rfl ho4 rfl (by omega) (by omega) ?_; intro a3 n3 c3 w3 hown3 hbel3)
      have hn3 := hown3.len
      have hn4 := ho4.len
      rw [List.length_append, List.length_singleton, hn4] at hn3
      subst hn3
      have hS5 := src_under hS4 hbel3 hSD hBD
      have hK5 := keeps_under hK4 (hbel3.mono hwD)
      have hR5 := hR4.under hbel3 hRD
      have hG5 := hG4.under hbel3 hGD
      have hD5 : W3.heap.size ≤ w3.heap.size := Nat.le_trans hD4 hbel3.size
      clear hbel3 hS4 hK4 hR4 hG4 ho4
      go_roundw
      case rel => exact ⟨m + 1, a3, c3, _, by omega, by go_num, rfl, sm_snoc hsm (by omega), hown3, hS5, hK5, hR5, hG5, hD5⟩
      case measure => simp [intOf]; omega
    · obtain rfl : m = P := by omega
      go_wp2_with fail
      refine (l01Next_any _ S 20 _ hS (by decide)).mono ?_
      rintro e w4 ⟨x, rfl, hx0, hx1, hS4, hg4⟩
      have ho4 := ow_apart ho hSD hg4
      have hK4 := keeps_trans hK hg4
      have hR4 := hR.grown hg4 (fun e => by injection e with e; exact hSR e.symm)
      have hG4 := hG.grown hg4 (fun e => by injection e with e; exact hSG e.symm)
      have hD4 : W3.heap.size ≤ w4.heap.size := Nat.le_trans hD hg4.size
      clear hg4 hS hK hR hG ho g1 g2 g3 g4 g5
      obtain ⟨g1, g2, g3, g4, g5⟩ := id hG4
      obtain ⟨r1, r2, r3, r4, r5⟩ := id hR4
      have r50 := r5 0
      by_cases x0 : x = 0
      · subst x0
        go_wp2_with (at_builtin; refine wpList_push .i64 _ rfl _ _ 25 rfl W3.heap.size 2 _ i0 8 Try.underlying25 hi hz0 hz1 hz2 (by omega) a' m c' ys _ rfl ho4 rfl (by omega) (by omega) ?_; intro a3 n3 c3 w3 hown3 hbel3; obtain ⟨g1, g2, g3, g4, g5⟩ := hG4.under hbel3 hGD; obtain ⟨r1, r2, r3, r4, r5⟩ := hR4.under hbel3 hRD; have r50 := r5 0)
        have hS5 := src_under hS4 hbel3 hSD hBD
        have hK5 := keeps_under hK4 (hbel3.mono hwD)
        have hR5 := hR4.under hbel3 hRD
        have hn3 : n3 ≤ 100 := by have e1 := hown3.len; have e2 := ho4.len; rw [List.length_append, List.length_singleton] at e1; omega
        obtain ⟨e0, e1, e2, hfin⟩ := drawn_end (1 + r) (1 + q) hR5 hown3 hRD hS5 hSR hBw hK5 (by omega) (by omega) hn3 (sm_snoc hsm (by omega))
        exact bodyPost_ret (v := .agg #[.int .i64 (1 + r), .int .i64 (1 + q), .slice _ _ _]) (by simp [results, Try.results105, go_sem, e0, e1, e2]) rfl hfin
      · by_cases x1 : x = 1
        · subst x1
          obtain ⟨g, rfl, hgD, hgw⟩ := ho4.form (by omega)
          obtain ⟨y, hy⟩ : ∃ y, ys[0]? = some y := ⟨_, List.getElem?_eq_getElem (by have := ho4.len; omega)⟩
          have hcell := ho4.cell hy
          have hfr := ho4.free 0
          have hset := ho4.set_ 0 2
          have hbel3 := (Below.refl W3.heap.size w4).setCell (p := ⟨g, 0, none⟩) hgD (.int .i64 2)
          obtain ⟨-, -, -, -, r5⟩ := hR4.under hbel3 hRD
          have r50 := r5 0
          obtain ⟨-, k2, k3, -, -⟩ := hG4.under hbel3 hGD
          clear g2 g3
          go_wp2_with fail
          have hS5 := src_under hS4 hbel3 hSD hBD
          have hK5 := keeps_under hK4 (hbel3.mono hwD)
          have hR5 := hR4.under hbel3 hRD
          have hsm2 : sm (ys.set 0 2) := fun z hz => by
            rcases List.mem_or_eq_of_mem_set hz with h | h
            · exact hsm z h
            · omega
          obtain ⟨e0, e1, e2, hfin⟩ := drawn_end (1 + r) (1 + q) hR5 hset hRD hS5 hSR hBw hK5 (by omega) (by omega) (by omega) hsm2
          exact bodyPost_ret (v := .agg #[.int .i64 (1 + r), .int .i64 (1 + q), .slice _ _ _]) (by simp [results, Try.results105, go_sem, e0, e1, e2]) rfl hfin
        · by_cases x2 : x = 2
          · subst x2
            have hl := Ow.lit (K := .i64) (E := 2) (xs := [0, -1, 40001]) (B := w4.heap.size) w4 (Nat.le_refl _) (by simp)
            have hal := Below.alloc (Below.refl w4.heap.size w4) (Nat.le_refl _) (.cells (ints .i64 [0, -1, 40001]).toArray 2)
            have hS5 := src_keep hS4 hal
            have hK5 := keeps_trans hK4 (keeps_below (S := S) hal)
            have hR5 := hR4.under hal hR4.1
            have hG5 := hG4.under hal hG4.1
            have ho5 := ho4.keep hal
            have hs5 := hal.size
            clear hal hS4 hK4 hR4 hG4 ho4 g1 g2 g3 g4 g5 r1 r2 r3 r4 r5 r50 x0 x1 hx0 hx1
            go_wp2_with fail
            refine (l01Next_any _ S 3 _ hS5 (by decide)).mono ?_
            rintro e w6 ⟨z, rfl, hz0', hz1', hS6, hg6⟩
            obtain ⟨Z, rfl⟩ := Int.eq_ofNat_of_zero_le hz0'
            have hZ : Z < 3 := by omega
            have ho6 := ow_apart ho5 hSD hg6
            have hl6 := ow_apart hl (by omega) hg6
            have hK6 := keeps_trans hK5 hg6
            have hR6 := hR5.grown hg6 (fun e => by injection e with e; exact hSR e.symm)
            have hG6 := hG5.grown hg6 (fun e => by injection e with e; exact hSG e.symm)
            obtain ⟨y, hy⟩ : ∃ y, ([0, -1, 40001] : List Int)[Z]? = some y := ⟨_, List.getElem?_eq_getElem (by simpa using hZ)⟩
            have hcell := hl6.cell hy
            have hym := List.mem_of_getElem? hy
            have hyb : -1 ≤ y ∧ y ≤ 40001 := by
              simp only [List.mem_cons, List.not_mem_nil, or_false] at hym
              omega
            have b1 : (0 : Int) ≤ (Z : Int) := by omega
            have b2 : (Z : Int) < 3 := by omega
            obtain ⟨g1, g2, g3, g4, g5⟩ := id hG6
            have g50 := g5 0
            have hs6 := hg6.size
            have hgg : w6.grownBy (w6.setCell ⟨w2.heap.size, 0, none⟩ (.int .i64 y)) (some w2.heap.size) := ⟨rfl, rfl, rfl, by simp, fun q hq hne => Below.heap_setCell _ _ _ q (fun e => hne (by rw [e]))⟩
            have hS7 := src_sep hS6 hgg (fun e => hSG e.symm) (by omega)
            have hK7 := keeps_new hK6 hgg (by omega)
            have hR7 := hR6.grown hgg (fun e => by injection e; omega)
            have ho7 := ho6.kept hgg (fun g e => by injection e; omega)
            obtain ⟨-, -, -, -, r5⟩ := id hR7
            have r50 := r5 0
            have ne1 : (⟨w2.heap.size, 0, none⟩ : Addr) ≠ ⟨w2.heap.size, 1, none⟩ := by intro e; injection e; omega
            have n0 : (w6.setCell ⟨w2.heap.size, 0, none⟩ (.int .i64 y)).cell? ⟨w2.heap.size, 0, none⟩ = some (.int .i64 y) := World.cell?_setCell_same _ _ _ g2
            have n1 : (w6.setCell ⟨w2.heap.size, 0, none⟩ (.int .i64 y)).cell? ⟨w2.heap.size, 1, none⟩ = some (.int .i64 (1 + q)) := by rw [World.cell?_setCell_other _ _ _ _ ne1]; exact g3
            obtain ⟨p1, p2, p3, p4, p5⟩ := id hR6
            have p50 := p5 0
            clear hg6 hy hym hl6 hl hz0' hz1' hS5 hK5 hR5 hG5 ho5 hgg hG6 g1 g4 g5 hK6 hR6 hS6 ho6
            go_wp2_with fail
            obtain ⟨e0, e1, e2, hfin⟩ := drawn_end y (1 + q) hR7 ho7 hRD hS7 hSR hBw hK7 (by omega) (by omega) (by omega) hsm
            exact bodyPost_ret (v := .agg #[.int .i64 y, .int .i64 (1 + q), .slice _ _ _]) (by simp [results, Try.results105, go_sem, e0, e1, e2]) rfl hfin
          · have d0 : (x == 0) = false := by simp [x0]
            have d1 : (x == 1) = false := by simp [x1]
            have d2 : (x == 2) = false := by simp [x2]
            go_wp2_with fail
            obtain ⟨e0, e1, e2, hfin⟩ := drawn_end (1 + r) (1 + q) hR4 ho4 hRD hS4 hSR hBw hK4 (by omega) (by omega) (by omega) hsm
            exact bodyPost_ret (v := .agg #[.int .i64 (1 + r), .int .i64 (1 + q), .slice _ _ _]) (by simp [results, Try.results105, go_sem, e0, e1, e2]) rfl hfin
set_option maxHeartbeats 2000000 in
set_option maxRecDepth 20000 in
theorem l16Draw_any (B S : Nat) (w : World) (h : Src B w S) :
    Calls Try.prog 74 #[.pointer (some ⟨S, 0, none⟩)] w (DrawnGr B S w) := by
  obtain ⟨i0, hi, hz0, hz1, hz2⟩ := info_parts info_int64
  have hSw := (Src_le h).2.2
  have hBw := (Src_le h).2.1
  go_enter Try.func74, Try.ntmps74
  have hR := BlkV.new w (.int .i64 0) (.int .i64 0) (.slice none 0 0) 41
  have hal := Below.alloc (Below.refl w.heap.size w) (Nat.le_refl _) (.cells #[.int .i64 0, .int .i64 0, .slice none 0 0] 41)
  have HS := src_keep h hal
  have HK := keeps_below (S := S) hal
  go_wp2_with fail
  generalize (w.alloc (.cells #[.int .i64 0, .int .i64 0, .slice none 0 0] 41)) = W0 at *
  refine (l01Next_any _ S 6 _ HS (by decide)).mono ?_
  rintro e w1 ⟨r, rfl, hr0, hr1, hS1, hg1⟩
  replace hR := hR.grown hg1 (fun e => by injection e; omega)
  have hK1 := keeps_trans HK hg1
  have hs1 := hK1.size
  have hRw := hR.1
  have hSR : S ≠ w.heap.size := by omega
  clear hg1 HS HK hal h
  by_cases hr : r = 0
  · subst hr
    go_wp2_with fail
    refine (l14DrawGrid_any B S _ hS1).mono ?_
    rintro e w2 ⟨r, c, a, n, k, xs, rfl, hrb, hcb, hn, hsm, ho, hS2, hg2⟩
    have hR2 := hR.grown hg2 (fun e => by injection e with e; exact hSR e.symm)
    have hK2 := keeps_trans hK1 hg2
    obtain ⟨-, r2, r3, r4, r5⟩ := id hR2
    have r50 := r5 0
    clear hg2 hS1 hK1 hR
    go_wp2_with fail
    obtain ⟨e0, e1, e2, hfin⟩ := drawn_end r c hR2 ho hRw hS2 hSR hBw hK2 hrb hcb hn hsm
    exact bodyPost_ret (v := .agg #[.int .i64 r, .int .i64 c, .slice _ _ _]) (by simp [results, Try.results74, go_sem, e0, e1, e2]) rfl hfin
  · have d0 : (r == 0) = false := by simp [hr]
    go_wp2_with fail
    refine (l01Next_any _ S 9 _ hS1 (by decide)).mono ?_
    rintro e w2 ⟨r', rfl, hr0', hr1', hS2, hg2⟩
    replace hR := hR.grown hg2 (fun e => by injection e with e; exact hSR e.symm)
    have hK2 := keeps_trans hK1 hg2
    clear hg2 hS1 hK1 hr0 hr1 hr d0
    go_wp2_with fail
    refine (l01Next_any _ S 9 _ hS2 (by decide)).mono ?_
    rintro e w3 ⟨q, rfl, hq0, hq1, hS3, hg3⟩
    replace hR := hR.grown hg3 (fun e => by injection e with e; exact hSR e.symm)
    have hK3 := keeps_trans hK2 hg3
    have hs2 := hK3.size
    clear hg3 hS2 hK2
    obtain ⟨P, hP⟩ : ∃ P : Nat, (1 + r') * (1 + q) = (P : Int) := Int.eq_ofNat_of_zero_le (Int.mul_nonneg (by omega) (by omega))
    have hP1 : 1 ≤ P ∧ P ≤ 81 := by
      have h1 := Int.mul_le_mul (show (1 : Int) ≤ 1 + r' by omega) (show (1 : Int) ≤ 1 + q by omega) (by omega) (by omega)
      have h2 := Int.mul_le_mul (show 1 + r' ≤ 9 by omega) (show 1 + q ≤ 9 by omega) (by omega) (by omega)
      omega
    have ew : IntKind.i64.wrap ((1 + r') * (1 + q)) = (P : Int) := by rw [hP]; exact IntWalk.i64_in _ (by omega)
    clear hP
    have hne : w.heap.size < w3.heap.size := hR.1
    have hG := BlkV.new w3 (.int .i64 (1 + r')) (.int .i64 (1 + q)) (.slice none 0 0) 41
    have hal := Below.alloc (Below.refl w3.heap.size w3) (Nat.le_refl _) (.cells #[.int .i64 (1 + r'), .int .i64 (1 + q), .slice none 0 0] 41)
    have hS4 := src_keep hS3 hal
    have hK4 := keeps_trans hK3 (keeps_below (S := S) hal)
    replace hR := hR.under hal hR.1
    have hs3 : (w3.alloc (.cells #[.int .i64 (1 + r'), .int .i64 (1 + q), .slice none 0 0] 41)).heap.size = w3.heap.size + 1 := by simp
    go_wp2_with fail
    generalize (w3.alloc (.cells #[.int .i64 (1 + r'), .int .i64 (1 + q), .slice none 0 0] 41)) = W3 at *
    have hE : Ow .i64 2 W3.heap.size (W3.alloc (.cells #[] 2)) (some ⟨W3.heap.size, 0, none⟩) 0 0 [] := Ow.empty _ _ _ W3 (Nat.le_refl _)
    have hal3 := Below.alloc (Below.refl W3.heap.size W3) (Nat.le_refl _) (.cells #[] 2)
    have hS5 := src_keep hS4 hal3
    have hK5 := keeps_trans hK4 (keeps_below (S := S) hal3)
    have hR5 := hR.under hal3 hR.1
    have hG5 := hG.under hal3 hG.1
    have hSD : S < W3.heap.size := by omega
    have hBD : B ≤ W3.heap.size := by omega
    have hwD : w.heap.size ≤ W3.heap.size := by omega
    have hRD : w.heap.size < W3.heap.size := by omega
    have hGD : w3.heap.size < W3.heap.size := by omega
    have hSG : S ≠ w3.heap.size := by omega
    clear hR hG hal hal3 hS3 hK3 hS4 hK4
    go_loopw [4, 5] (fun l i wr => ∃ (m : Nat) (a' : Option Addr) (c' : Nat) (ys : List Int), m ≤ P ∧ i = .int .i64 (m : Int) ∧ l = .slice a' m c' ∧ sm ys ∧ Ow .i64 2 W3.heap.size wr a' m c' ys ∧ Src B wr S ∧ w.grownBy wr (some S) ∧ BlkV w.heap.size (.int .i64 0) (.int .i64 0) (.slice none 0 0) wr ∧ BlkV w3.heap.size (.int .i64 (1 + r')) (.int .i64 (1 + q)) (.slice none 0 0) wr ∧ W3.heap.size ≤ wr.heap.size) (fun _ i _ => P - (intOf i).toNat)
    case atStart => exact ⟨0, _, 0, [], by omega, rfl, rfl, (fun x hx => by simp at hx), (by rw [← hs3]; exact hE), hS5, hK5, hR5, hG5, by simp⟩
    case round =>
      clear hE hS5 hK5 hR5 hG5
      obtain ⟨m, a', c', ys, hm, rfl, rfl, hsm, ho, hS, hK, hR, hG, hD⟩ := hrel
      obtain ⟨g1, g2, g3, g4, g5⟩ := id hG
      by_cases hlt : m < P
      · have hone : m = 0 ∨ ∃ g y, a' = some ⟨g, 0, none⟩ ∧ ys[m - 1]? = some y := by
          rcases m with _ | m
          · exact .inl rfl
          · obtain ⟨g, rfl, -, -⟩ := ho.form (by omega)
            exact .inr ⟨g, _, rfl, List.getElem?_eq_getElem (by have := ho.len; omega)⟩
        rcases hone with rfl | ⟨g, y, rfl, hy⟩
        · go_wp2_with fail
          refine (l01Next_any _ S 2 _ hS (by decide)).mono ?_
          rintro e w5 ⟨x, rfl, x0, x1, hS4, hg4⟩
          have ho4 := ow_apart ho hSD hg4
          have hK4 := keeps_trans hK hg4
          have hR4 := hR.grown hg4 (fun e => by injection e with e; exact hSR e.symm)
          have hG4 := hG.grown hg4 (fun e => by injection e with e; exact hSG e.symm)
          have hD4 : W3.heap.size ≤ w5.heap.size := Nat.le_trans hD hg4.size
          clear hg4 hS hK hR hG ho hD g1 g2 g3 g4 g5
          go_wp2_with (at_builtin; refine wpList_push .i64 _ rfl _ _ 25 rfl W3.heap.size 2 _ i0 8 Try.underlying25 hi hz0 hz1 hz2 (by omega) a' 0 c' ys _ rfl ho4 rfl (by omega) (by omega) ?_; intro a3 n3 c3 w6 hown3 hbel3)
          have hn3 := hown3.len
          have hn4 := ho4.len
          rw [List.length_append, List.length_singleton, hn4] at hn3
          subst hn3
          have hS5 := src_under hS4 hbel3 hSD hBD
          have hK5 := keeps_under hK4 (hbel3.mono hwD)
          have hR5 := hR4.under hbel3 hRD
          have hG5 := hG4.under hbel3 hGD
          have hD5 : W3.heap.size ≤ w6.heap.size := Nat.le_trans hD4 hbel3.size
          clear hbel3 hS4 hK4 hR4 hG4 ho4
          go_roundw
          case rel => exact ⟨0 + 1, a3, c3, _, by omega, by go_num, rfl, sm_snoc hsm (by omega), hown3, hS5, hK5, hR5, hG5, hD5⟩
          case measure => simp [intOf]; omega
        · by_cases hm0 : m = 0
          · subst hm0
            have := ho.len
            have := (List.getElem?_eq_some_iff.1 hy).1
            omega
          · have dm : decide ((0 : Int) < (m : Int)) = true := by simp; omega
            go_wp2_with fail
            refine (l01Next_any _ S 3 _ hS (by decide)).mono ?_
            rintro e w5 ⟨x, rfl, x0, x1, hS4, hg4⟩
            have ho4 := ow_apart ho hSD hg4
            have hK4 := keeps_trans hK hg4
            have hR4 := hR.grown hg4 (fun e => by injection e with e; exact hSR e.symm)
            have hG4 := hG.grown hg4 (fun e => by injection e with e; exact hSG e.symm)
            have hD4 : W3.heap.size ≤ w5.heap.size := Nat.le_trans hD hg4.size
            clear hg4 hS hK hR hG ho hD g1 g2 g3 g4 g5
            by_cases x2 : x = 0
            · subst x2
              go_wp2_with fail
              have ho := ho4
              have hS := hS4
              have hK := hK4
              have hR := hR4
              have hG := hG4
              have hD := hD4
              clear ho4 hS4 hK4 hR4 hG4 hD4
              refine (l01Next_any _ S 2 _ hS (by decide)).mono ?_
              rintro e w7 ⟨z, rfl, z0, z1, hS4, hg4⟩
              have ho4 := ow_apart ho hSD hg4
              have hK4 := keeps_trans hK hg4
              have hR4 := hR.grown hg4 (fun e => by injection e with e; exact hSR e.symm)
              have hG4 := hG.grown hg4 (fun e => by injection e with e; exact hSG e.symm)
              have hD4 : W3.heap.size ≤ w7.heap.size := Nat.le_trans hD hg4.size
              clear hg4 hS hK hR hG ho hD
              go_wp2_with (at_builtin; refine wpList_push .i64 _ rfl _ _ 25 rfl W3.heap.size 2 _ i0 8 Try.underlying25 hi hz0 hz1 hz2 (by omega) (some ⟨g, 0, none⟩) m c' ys _ rfl ho4 rfl (by omega) (by omega) ?_; intro a3 n3 c3 w6 hown3 hbel3)
              have hn3 := hown3.len
              have hn4 := ho4.len
              rw [List.length_append, List.length_singleton, hn4] at hn3
              subst hn3
              have hS5 := src_under hS4 hbel3 hSD hBD
              have hK5 := keeps_under hK4 (hbel3.mono hwD)
              have hR5 := hR4.under hbel3 hRD
              have hG5 := hG4.under hbel3 hGD
              have hD5 : W3.heap.size ≤ w6.heap.size := Nat.le_trans hD4 hbel3.size
              clear hbel3 hS4 hK4 hR4 hG4 ho4
              go_roundw
              case rel => exact ⟨m + 1, a3, c3, _, by omega, by go_num, rfl, sm_snoc hsm (by omega), hown3, hS5, hK5, hR5, hG5, hD5⟩
              case measure => simp [intOf]; omega
            · have dx : decide ((0 : Int) < x) = true := by simp; omega
              have hcell := ho4.cell hy
              have hyb := hsm y (List.mem_of_getElem? hy)
              go_wp2_with (at_builtin; refine wpList_push .i64 _ rfl _ _ 25 rfl W3.heap.size 2 _ i0 8 Try.underlying25 hi hz0 hz1 hz2 (by omega) (some ⟨g, 0, none⟩) m c' ys _ rfl ho4 rfl (by omega) (by omega) ?_; intro a3 n3 c3 w6 hown3 hbel3)
              have hn3 := hown3.len
              have hn4 := ho4.len
              rw [List.length_append, List.length_singleton, hn4] at hn3
              subst hn3
              have hS5 := src_under hS4 hbel3 hSD hBD
              have hK5 := keeps_under hK4 (hbel3.mono hwD)
              have hR5 := hR4.under hbel3 hRD
              have hG5 := hG4.under hbel3 hGD
              have hD5 : W3.heap.size ≤ w6.heap.size := Nat.le_trans hD4 hbel3.size
              clear hbel3 hS4 hK4 hR4 hG4 ho4
              go_roundw
              case rel => exact ⟨m + 1, a3, c3, _, by omega, by go_num, rfl, sm_snoc hsm hyb, hown3, hS5, hK5, hR5, hG5, hD5⟩
              case measure => simp [intOf]; omega
      · obtain rfl : m = P := by omega
        obtain ⟨-, r2, r3, r4, r5⟩ := id hR
        have r50 := r5 0
        go_wp2_with fail
        obtain ⟨e0, e1, e2, hfin⟩ := drawn_end (1 + r') (1 + q) hR ho hRD hS hSR hBw hK (by omega) (by omega) (by omega) hsm
        exact bodyPost_ret (v := .agg #[.int .i64 (1 + r'), .int .i64 (1 + q), .slice _ _ _]) (by simp [results, Try.results74, go_sem, e0, e1, e2]) rfl hfin
end Go.Proofs.Ytckmenjbblgiiaa
