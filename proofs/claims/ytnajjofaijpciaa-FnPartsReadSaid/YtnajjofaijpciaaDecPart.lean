/-
  Contracts: DecodePart on both sides.
  Conditions: lists of at most 1000000000 numbers.
-/
import Derived.Test.YtnajjofaijpciaaMg25
import Derived.Test.YtnajjofaijpciaaMg26
set_option linter.unusedVariables false
namespace Go.Proofs.Ytnajjofaijpciaa
open Go.RowKit Go.G8
structure PartD where
  ix : Int
  ct : Int
  pr : Int
  tx : ByteArray
def partVal (p : PartD) (code : Int) : Value := .tuple #[.agg #[.int .i64 p.ix, .int .i64 p.ct, .int .i64 p.pr, .string p.tx], .int .i64 code]
def zPart : PartD := ⟨0, 0, 0, ⟨#[]⟩⟩
/-- What is made of the segments behind a head. -/
def tailP (bs : List Int) (at_ : Nat) (ix ct : Int) (pr : Option Int) : PartD × Int :=
  if (segsL bs (bs.length + 1) at_ 0 []).2 = 0 then (⟨ix, ct, pr.getD (parity (strI (strOfNums (joinI (segsL bs (bs.length + 1) at_ 0 []).1)))), strOfNums (joinI (segsL bs (bs.length + 1) at_ 0 []).1)⟩, 0)
  else (zPart, (segsL bs (bs.length + 1) at_ 0 []).2)
def rBitsPart (bs : List Int) : PartD × Int :=
  if 3 ≤ bs.length ∧ num (bpart bs 0 3) = 5 then
    (if bs.length < 17 then (zPart, 6) else if num (bpart bs 6 3) + 1 ≤ num (bpart bs 3 3) then (zPart, 6) else tailP bs 17 (num (bpart bs 3 3)) (num (bpart bs 6 3) + 1) (some (num (bpart bs 9 8))))
  else tailP bs 0 0 1 none
def rPart (p q y : Int) (xs : List Int) : PartD × Int :=
  if (rElementBits p q y xs).2 = 0 then rBitsPart (rElementBits p q y xs).1 else (zPart, (rElementBits p q y xs).2)
/-- A slot of four cells. -/
structure Slot4 (W : World) (G : Nat) (a b c d : Value) : Prop where
  lt : G < W.heap.size
  c0 : W.cell? ⟨G, 0, none⟩ = some a
  c1 : W.cell? ⟨G, 1, none⟩ = some b
  c2 : W.cell? ⟨G, 2, none⟩ = some c
  c3 : W.cell? ⟨G, 3, none⟩ = some d
  fz : ∀ i, W.frozen? ⟨G, i, none⟩ = false
theorem Slot4.keep {W W' : World} {G : Nat} {a b c d : Value} (h : Slot4 W G a b c d) (hb : Below W.heap.size W W') : Slot4 W' G a b c d := by
  obtain ⟨hcc, hff⟩ := bcell hb
  exact ⟨Nat.lt_of_lt_of_le h.lt hb.size, (hcc _ 0 h.lt).trans h.c0, (hcc _ 1 h.lt).trans h.c1, (hcc _ 2 h.lt).trans h.c2, (hcc _ 3 h.lt).trans h.c3, fun i => (hff _ i h.lt).trans (h.fz i)⟩
theorem Slot4.new (W : World) (a b c d : Value) (T : TypeId) : Slot4 (W.alloc (.cells #[a, b, c, d] T)) W.heap.size a b c d := by
  refine ⟨by simp, ?_, ?_, ?_, ?_, fun i => frozen_of_row _ _ _ _ _ (heap_alloc_new W _)⟩ <;> (rw [cell_of_row _ _ _ _ _ (0, 0) (heap_alloc_new W _)]; rfl)
theorem Slot4.set (W : World) {G : Nat} {a b c d : Value} (h : Slot4 W G a b c d) (x y z u : Value) : Slot4 ((((W.setCell ⟨G, 0, none⟩ x).setCell ⟨G, 1, none⟩ y).setCell ⟨G, 2, none⟩ z).setCell ⟨G, 3, none⟩ u) G x y z u := by
  have n : ∀ i j : Nat, i ≠ j → (⟨G, i, none⟩ : Addr) ≠ ⟨G, j, none⟩ := fun i j hij e => hij (by injection e)
  have d1 : (W.setCell ⟨G, 0, none⟩ x).cell? ⟨G, 1, none⟩ = some b := by rw [World.cell?_setCell_other _ _ _ _ (by simp)]; exact h.c1
  have d2 : ((W.setCell ⟨G, 0, none⟩ x).setCell ⟨G, 1, none⟩ y).cell? ⟨G, 2, none⟩ = some c := by rw [World.cell?_setCell_other _ _ _ _ (by simp), World.cell?_setCell_other _ _ _ _ (by simp)]; exact h.c2
  have d3 : (((W.setCell ⟨G, 0, none⟩ x).setCell ⟨G, 1, none⟩ y).setCell ⟨G, 2, none⟩ z).cell? ⟨G, 3, none⟩ = some d := by rw [World.cell?_setCell_other _ _ _ _ (by simp), World.cell?_setCell_other _ _ _ _ (by simp), World.cell?_setCell_other _ _ _ _ (by simp)]; exact h.c3
  refine ⟨by simpa using h.lt, ?_, ?_, ?_, ?_, fun i => by simpa using h.fz i⟩
  · rw [World.cell?_setCell_other _ _ _ _ (by simp), World.cell?_setCell_other _ _ _ _ (by simp), World.cell?_setCell_other _ _ _ _ (by simp)]
    exact World.cell?_setCell_same _ _ _ h.c0
  · rw [World.cell?_setCell_other _ _ _ _ (by simp), World.cell?_setCell_other _ _ _ _ (by simp)]
    exact World.cell?_setCell_same _ _ _ d1
  · rw [World.cell?_setCell_other _ _ _ _ (by simp)]
    exact World.cell?_setCell_same _ _ _ d2
  · exact World.cell?_setCell_same _ _ _ d3
theorem below_set4 {w W : World} {G : Nat} (h : Below w.heap.size w W) (hG : w.heap.size ≤ G) (x y z u : Value) : Below w.heap.size w ((((W.setCell ⟨G, 0, none⟩ x).setCell ⟨G, 1, none⟩ y).setCell ⟨G, 2, none⟩ z).setCell ⟨G, 3, none⟩ u) :=
  (((h.setCell hG _).setCell hG _).setCell hG _).setCell hG _
theorem start_dp (w : World) (o : Obj) (T : TypeId) (a b c d : Value) : ∃ V G, (w.alloc o).alloc (.cells #[a, b, c, d] T) = V ∧ w.heap.size + 1 = G ∧ Below w.heap.size w V ∧ w.heap.size < G ∧ Slot4 V G a b c d := by
  refine ⟨_, _, rfl, rfl, (Below.alloc (Below.refl _ _) (Nat.le_refl _) _).alloc (by simp) _, by omega, ?_⟩
  have := Slot4.new (w.alloc o) a b c d T
  rwa [show (w.alloc o).heap.size = w.heap.size + 1 by simp] at this
theorem Slot4.oth {W : World} {G X : Nat} {a b c d : Value} (h : Slot4 W G a b c d) (hne : G ≠ X) (i : Nat) (v : Value) : Slot4 (W.setCell ⟨X, i, none⟩ v) G a b c d := by
  have n : ∀ j : Nat, (⟨G, j, none⟩ : Addr) ≠ ⟨X, i, none⟩ := fun j e => hne (by injection e)
  refine ⟨by simpa using h.lt, ?_, ?_, ?_, ?_, fun j => by simpa using h.fz j⟩
  · rw [World.cell?_setCell_other _ _ _ _ (n 0).symm]; exact h.c0
  · rw [World.cell?_setCell_other _ _ _ _ (n 1).symm]; exact h.c1
  · rw [World.cell?_setCell_other _ _ _ _ (n 2).symm]; exact h.c2
  · rw [World.cell?_setCell_other _ _ _ _ (n 3).symm]; exact h.c3
theorem Slot4.set3 {W : World} {G : Nat} {a b c d : Value} (h : Slot4 W G a b c d) (v : Value) : Slot4 (W.setCell ⟨G, 3, none⟩ v) G a b c v := by
  refine ⟨by simpa using h.lt, ?_, ?_, ?_, World.cell?_setCell_same _ _ _ h.c3, fun j => by simpa using h.fz j⟩
  · rw [World.cell?_setCell_other _ _ _ _ (by simp)]; exact h.c0
  · rw [World.cell?_setCell_other _ _ _ _ (by simp)]; exact h.c1
  · rw [World.cell?_setCell_other _ _ _ _ (by simp)]; exact h.c2
theorem start_x {w W : World} {G : Nat} (hB : Below w.heap.size w W) (T : TypeId) (a b c d : Value) (hlt : G < W.heap.size) : ∃ V X, W.alloc (.cells #[a, b, c, d] T) = V ∧ W.heap.size = X ∧ Below w.heap.size w V ∧ Below W.heap.size W V ∧ Slot4 V X a b c d ∧ G ≠ X ∧ w.heap.size ≤ X :=
  ⟨_, _, rfl, rfl, bt hB (Below.alloc (Below.refl _ _) (Nat.le_refl _) _), Below.alloc (Below.refl _ _) (Nat.le_refl _) _, Slot4.new W a b c d T, by omega, hB.size⟩
set_option maxHeartbeats 8000000 in
set_option maxRecDepth 20000 in
theorem specDecodePart_any (p q y : Int) (a : Option Addr) (n c : Nat) (xs : List Int) (w : World) (h : Rd .i64 w a n xs) (hn : n ≤ 1000000000) :
    Calls Try.prog 22 #[.agg #[.int .i64 p, .int .i64 q, .int .i64 y], .slice a n c] w (Ret (partVal (rPart p q y xs).1 (rPart p q y xs).2) w) := by
  have hbits := rElementBits_bits p q y xs
  have H := Lib.hid h
  clear h
  obtain ⟨R, hR⟩ : ∃ R, rElementBits p q y xs = R := ⟨_, rfl⟩
  have HE := Lib.hid (fun w (h : Rd .i64 w a n xs) => specElementBits_any p q y a n c xs w h hn)
  have HP := Lib.hid (show rPart p q y xs = if R.2 = 0 then rBitsPart R.1 else (zPart, R.2) by rw [← hR]; rfl)
  rw [hR] at HE hbits
  obtain ⟨bs, code⟩ := R
  obtain ⟨P, hP⟩ : ∃ P, rPart p q y xs = P := ⟨_, rfl⟩
  rw [hP] at HP ⊢
  go_enter Try.func22, Try.ntmps22
  go_wp2_with fail
  obtain ⟨V, G, hV, hG, hBV, hGw, hS⟩ := start_dp w (.cells #[.int .i64 p, .int .i64 q, .int .i64 y] 36) 45 (.int .i64 0) (.int .i64 0) (.int .i64 0) (.string ⟨#[]⟩)
  rw [hV, hG]
  clear hV hG
  refine (HE.out _ (H.out.to hBV)).mono ?_
  rintro e w1 ⟨a1, n1, c1, rfl, ho, hb1⟩
  replace hS := hS.keep hb1
  replace hBV := bt hBV hb1
  clear hb1
  have hlen := ho.len
  obtain ⟨z0, z1, z2, z3, z4, z5⟩ := hS
  by_cases hc : code = 0
  · subst hc
    have hr := Lib.hid (show P = rBitsPart bs by rw [HP.out, if_pos rfl])
    by_cases hhd : 3 ≤ bs.length ∧ num (bpart bs 0 3) = 5
    · obtain ⟨hn3, hN5⟩ := hhd
      have HO := Lib.hid (ho.rd (fun x hx => fits_bit (hbits.2 x hx)))
      have hd3 : decide ((3 : Int) ≤ (n1 : Int)) = true := by rw [decide_eq_true_eq]; omega
      have HNum := Lib.hid (fun W (hR : Rd .i64 W a1 n1 bs) => l01Number_any a1 n1 c1 bs 0 3 W hR (Lib.hid hbits.2) (by have := hbits.1; omega) (by omega) (by omega) (by omega) (by omega))
      rw [show (0 : Int).toNat = 0 from rfl, show (3 : Int).toNat = 3 from rfl, hN5] at HNum
      have hr := Lib.hid (show P = if bs.length < 17 then (zPart, 6) else if num (bpart bs 6 3) + 1 ≤ num (bpart bs 3 3) then (zPart, 6) else tailP bs 17 (num (bpart bs 3 3)) (num (bpart bs 6 3) + 1) (some (num (bpart bs 9 8))) by rw [hr.out]; unfold rBitsPart; rw [if_pos ⟨hn3, hN5⟩])
      by_cases h17 : n1 < 17
      · have hr : P = (zPart, 6) := by rw [hr.out, if_pos (by omega)]
        subst hr
        go_wp2_with fail
        obtain ⟨V2, X, hV2, hX, hB2, hbX, hSX, hGX, hwX⟩ := start_x hBV 45 (.int .i64 0) (.int .i64 1) (.int .i64 0) (.string ⟨#[]⟩) z0
        rw [hV2, hX]
        have hSG := Slot4.keep ⟨z0, z1, z2, z3, z4, z5⟩ hbX
        have hw1X : w1.heap.size ≤ X := Nat.le_of_eq hX
        clear hV2 hX z0 z1 z2 z3 z4 z5 hBV
        refine (HNum.out _ (HO.out.to hbX)).mono ?_
        rintro e w9 ⟨rfl, hw9⟩
        rw [← hw9]
        clear hw9
        obtain ⟨y0, y1, y2, y3, y4, y5⟩ := Slot4.set _ hSG (.int .i64 0) (.int .i64 0) (.int .i64 0) (.string ⟨#[]⟩)
        have HBf := Lib.hid (below_set4 hB2 (Nat.le_of_lt hGw) (.int .i64 0) (.int .i64 0) (.int .i64 0) (.string ⟨#[]⟩))
        obtain ⟨g0, g1, g2, g3, g4, g5⟩ := hSG
        clear y0 y5 hB2
        go_wp2_with fail
        refine bodyPost_ret (v := partVal zPart 6) (by simp [partVal, zPart, results, Try.results22, go_sem, y1, y2, y3, y4]) rfl ⟨rfl, HBf.out⟩
      · have hr := Lib.hid (hr.out.trans (if_neg (by omega)))
        have HN3 := Lib.hid (fun W (hR : Rd .i64 W a1 n1 bs) => l01Number_any a1 n1 c1 bs 3 3 W hR (Lib.hid hbits.2) (by have := hbits.1; omega) (by omega) (by omega) (by omega) (by omega))
        have HN6 := Lib.hid (fun W (hR : Rd .i64 W a1 n1 bs) => l01Number_any a1 n1 c1 bs 6 3 W hR (Lib.hid hbits.2) (by have := hbits.1; omega) (by omega) (by omega) (by omega) (by omega))
        have HN9 := Lib.hid (fun W (hR : Rd .i64 W a1 n1 bs) => l01Number_any a1 n1 c1 bs 9 8 W hR (Lib.hid hbits.2) (by have := hbits.1; omega) (by omega) (by omega) (by omega) (by omega))
        rw [show (3 : Int).toNat = 3 from rfl] at HN3
        rw [show (6 : Int).toNat = 6 from rfl, show (3 : Int).toNat = 3 from rfl] at HN6
        rw [show (9 : Int).toNat = 9 from rfl, show (8 : Int).toNat = 8 from rfl] at HN9
        obtain ⟨kI, kI'⟩ := bpart_bd hbits.2 3 3 (by omega)
        obtain ⟨kC, kC'⟩ := bpart_bd hbits.2 6 3 (by omega)
        obtain ⟨kP, kP'⟩ := bpart_bd hbits.2 9 8 (by omega)
        obtain ⟨I, hI⟩ : ∃ I, num (bpart bs 3 3) = I := ⟨_, rfl⟩
        obtain ⟨C, hC⟩ : ∃ C, num (bpart bs 6 3) = C := ⟨_, rfl⟩
        obtain ⟨pr, hpr⟩ : ∃ pr, num (bpart bs 9 8) = pr := ⟨_, rfl⟩
        rw [hI] at HN3 hr kI kI'
        rw [hC] at HN6 hr kC kC'
        rw [hpr] at HN9 hr kP kP'
        have hd17 : decide ((n1 : Int) < 17) = false := by rw [decide_eq_false_iff_not]; omega
        go_wp2_with fail
        obtain ⟨V2, X, hV2, hX, hB2, hbX, hSX, hGX, hwX⟩ := start_x hBV 45 (.int .i64 0) (.int .i64 1) (.int .i64 0) (.string ⟨#[]⟩) z0
        rw [hV2, hX]
        have hSG := Slot4.keep ⟨z0, z1, z2, z3, z4, z5⟩ hbX
        have hw1X : w1.heap.size ≤ X := Nat.le_of_eq hX
        clear hV2 hX z0 z1 z2 z3 z4 z5 hBV
        refine (HNum.out _ (HO.out.to hbX)).mono ?_
        rintro e w9 ⟨rfl, hw9⟩
        rw [← hw9]
        clear hw9
        go_wp2_with fail
        refine (HN3.out _ (HO.out.to hbX)).mono ?_
        rintro e w9 ⟨rfl, hw9⟩
        rw [← hw9]
        clear hw9
        go_wp2_with fail
        refine (HN6.out _ (HO.out.to hbX)).mono ?_
        rintro e w9 ⟨rfl, hw9⟩
        rw [← hw9]
        clear hw9
        go_wp2_with fail
        refine (HN9.out _ (HO.out.to hbX)).mono ?_
        rintro e w9 ⟨rfl, hw9⟩
        rw [← hw9]
        clear hw9
        have hw6 : IntKind.i64.wrap (C + 1) = C + 1 := IntWalk.i64_in _ (by omega)
        have HX3 := Lib.hid (Slot4.set V2 hSX (.int .i64 I) (.int .i64 (C + 1)) (.int .i64 pr) (.string ⟨#[]⟩))
        have HG3 := Lib.hid ((((hSG.oth hGX 0 (.int .i64 I)).oth hGX 1 (.int .i64 (C + 1))).oth hGX 2 (.int .i64 pr)).oth hGX 3 (.string ⟨#[]⟩))
        have HB3 := Lib.hid (below_set4 hB2 hwX (.int .i64 I) (.int .i64 (C + 1)) (.int .i64 pr) (.string ⟨#[]⟩))
        have hbX3 := Lib.hid ((((hbX.setCell (p := ⟨X, 0, none⟩) hw1X (.int .i64 I)).setCell (p := ⟨X, 1, none⟩) hw1X (.int .i64 (C + 1))).setCell (p := ⟨X, 2, none⟩) hw1X (.int .i64 pr)).setCell (p := ⟨X, 3, none⟩) hw1X (.string ⟨#[]⟩))
        obtain ⟨x0, x1, x2, x3, x4, x5⟩ := hSX
        obtain ⟨m0, m1, m2, m3, m4, m5⟩ := HX3.out
        clear m0 m5 hSG hB2 hbX
        by_cases hIC : C + 1 ≤ I
        · have hdi : decide (C + 1 ≤ I) = true := by rw [decide_eq_true_eq]; exact hIC
          have hr : P = (zPart, 6) := by rw [hr.out, if_pos hIC]
          subst hr
          have hSG := HG3.out
          have hB2 := HB3.out
          obtain ⟨y0, y1, y2, y3, y4, y5⟩ := Slot4.set _ hSG (.int .i64 0) (.int .i64 0) (.int .i64 0) (.string ⟨#[]⟩)
          have HBf := Lib.hid (below_set4 hB2 (Nat.le_of_lt hGw) (.int .i64 0) (.int .i64 0) (.int .i64 0) (.string ⟨#[]⟩))
          obtain ⟨g0, g1, g2, g3, g4, g5⟩ := hSG
          clear y0 y5 hB2
          go_wp2_with fail
          refine bodyPost_ret (v := partVal zPart 6) (by simp [partVal, zPart, results, Try.results22, go_sem, y1, y2, y3, y4]) rfl ⟨rfl, HBf.out⟩
        · have hdi : decide (C + 1 ≤ I) = false := by rw [decide_eq_false_iff_not]; exact hIC
          have hr := Lib.hid (hr.out.trans (if_neg hIC))
          have HSeg := Lib.hid (fun W (hR : Rd .i64 W a1 n1 bs) => l11Segments_any a1 n1 c1 17 bs W hR (Lib.hid hbits.2) (by have := hbits.1; omega) (by omega))
          obtain ⟨R2, hR2⟩ : ∃ R2, segsL bs (n1 + 1) 17 0 [] = R2 := ⟨_, rfl⟩
          have hsb := segsL_bd hbits.2 (n1 + 1) 17 0 [] rfl (by omega) (by simp) (by omega)
          rw [hR2] at HSeg hsb
          have hr := Lib.hid (show P = if R2.2 = 0 then (⟨I, C + 1, pr, strOfNums (joinI R2.1)⟩, 0) else (zPart, R2.2) by rw [hr.out]; unfold tailP; rw [hlen, hR2]; rfl)
          obtain ⟨l, sc⟩ := R2
          go_wp2_with fail
          clear x0 x1 x2 x3 x4 x5 m1 m2 m3 m4
          generalize ((((V2.setCell ⟨X, 0, none⟩ (.int .i64 I)).setCell ⟨X, 1, none⟩ (.int .i64 (C + 1))).setCell ⟨X, 2, none⟩ (.int .i64 pr)).setCell ⟨X, 3, none⟩ (.string ⟨#[]⟩)) = V3 at *
          refine (HSeg.out _ (HO.out.to hbX3.out)).mono ?_
          rintro e w2 ⟨a2, n2, c2, rfl, hn2, ho2, hb2⟩
          obtain rfl : n2 = l.length := hn2
          have hSG := HG3.out.keep hb2
          have hSX := HX3.out.keep hb2
          have hB2 := bt HB3.out hb2
          clear hb2
          by_cases hsc : sc = 0
          · subst hsc
            obtain ⟨S, hS'⟩ : ∃ S, strOfNums (joinI l) = S := ⟨_, rfl⟩
            have hr : P = (⟨I, C + 1, pr, S⟩, 0) := by rw [hr.out, if_pos rfl, hS']
            subst hr
            go_wp2_with fail
            refine (l11Join_any a2 l.length c2 l _ ho2.rd hsb.1 (by have := hsb.2.1; have := hbits.1; omega)).mono ?_
            rintro e w3 ⟨rfl, hb3⟩
            rw [hS']
            replace hSG := hSG.keep hb3
            replace hSX := hSX.keep hb3
            replace hB2 := bt hB2 hb3
            clear hb3 ho2
            obtain ⟨y0, y1, y2, y3, y4, y5⟩ := Slot4.set _ (hSG.oth hGX 3 (.string S)) (.int .i64 I) (.int .i64 (C + 1)) (.int .i64 pr) (.string S)
            have HBf := Lib.hid (below_set4 (hB2.setCell (p := ⟨X, 3, none⟩) hwX (.string S)) (Nat.le_of_lt hGw) (.int .i64 I) (.int .i64 (C + 1)) (.int .i64 pr) (.string S))
            obtain ⟨x0, x1, x2, x3, x4, x5⟩ := hSX
            obtain ⟨g0, g1, g2, g3, g4, g5⟩ := hSG
            clear y0 y5 hB2
            go_wp2_with fail
            refine bodyPost_ret (v := partVal ⟨I, C + 1, pr, S⟩ 0) (by simp [partVal, results, Try.results22, go_sem, y1, y2, y3, y4]) rfl ⟨rfl, HBf.out⟩
          · have hr : P = (zPart, sc) := by rw [hr.out, if_neg hsc]
            subst hr
            have h0' : (sc != 0) = true := by simpa using hsc
            obtain ⟨y0, y1, y2, y3, y4, y5⟩ := Slot4.set _ hSG (.int .i64 0) (.int .i64 0) (.int .i64 0) (.string ⟨#[]⟩)
            have HBf := Lib.hid (below_set4 hB2 (Nat.le_of_lt hGw) (.int .i64 0) (.int .i64 0) (.int .i64 0) (.string ⟨#[]⟩))
            obtain ⟨g0, g1, g2, g3, g4, g5⟩ := hSG
            clear y0 y5 hB2
            go_wp2_with fail
            refine bodyPost_ret (v := partVal zPart sc) (by simp [partVal, zPart, results, Try.results22, go_sem, y1, y2, y3, y4]) rfl ⟨rfl, HBf.out⟩
    · have hr := Lib.hid (show P = tailP bs 0 0 1 none by rw [hr.out]; unfold rBitsPart; rw [if_neg hhd])
      have HSeg := Lib.hid (fun W (hR : Rd .i64 W a1 n1 bs) => l11Segments_any a1 n1 c1 0 bs W hR (Lib.hid hbits.2) (by have := hbits.1; omega) (by omega))
      obtain ⟨R2, hR2⟩ : ∃ R2, segsL bs (n1 + 1) 0 0 [] = R2 := ⟨_, rfl⟩
      have hsb := segsL_bd hbits.2 (n1 + 1) 0 0 [] rfl (by omega) (by simp) (by omega)
      rw [hR2] at HSeg hsb
      have hr := Lib.hid (show P = if R2.2 = 0 then (⟨0, 1, parity (strI (strOfNums (joinI R2.1))), strOfNums (joinI R2.1)⟩, 0) else (zPart, R2.2) by rw [hr.out]; unfold tailP; rw [hlen, hR2]; rfl)
      obtain ⟨l, sc⟩ := R2
      have HO := Lib.hid (ho.rd (fun x hx => fits_bit (hbits.2 x hx)))
      by_cases h3 : n1 < 3
      · have hd3 : decide ((3 : Int) ≤ (n1 : Int)) = false := by rw [decide_eq_false_iff_not]; omega
        go_wp2_with fail
        obtain ⟨V2, X, hV2, hX, hB2, hbX, hSX, hGX, hwX⟩ := start_x hBV 45 (.int .i64 0) (.int .i64 1) (.int .i64 0) (.string ⟨#[]⟩) z0
        rw [hV2, hX]
        have hSG := Slot4.keep ⟨z0, z1, z2, z3, z4, z5⟩ hbX
        have hw1X : w1.heap.size ≤ X := Nat.le_of_eq hX
        clear hV2 hX z0 z1 z2 z3 z4 z5 hBV
        refine (HSeg.out _ (HO.out.to hbX)).mono ?_
        rintro e w2 ⟨a2, n2, c2, rfl, hn2, ho2, hb2⟩
        obtain rfl : n2 = l.length := hn2
        clear hbX
        replace hSG := hSG.keep hb2
        replace hSX := hSX.keep hb2
        replace hB2 := bt hB2 hb2
        clear hb2
        have hXG : X ≠ G := fun e => hGX e.symm
        by_cases hsc : sc = 0
        · subst hsc
          obtain ⟨S, hS'⟩ : ∃ S, strOfNums (joinI l) = S := ⟨_, rfl⟩
          have hSz : S.size ≤ 400 := by rw [← hS', strOfNums_size, joinI_len]; exact hsb.1
          obtain ⟨pr, hpr⟩ : ∃ pr, parity (strI S) = pr := ⟨_, rfl⟩
          have hr : P = (⟨0, 1, pr, S⟩, 0) := by rw [hr.out, if_pos rfl, hS', hpr]
          subst hr
          go_wp2_with fail
          refine (l11Join_any a2 l.length c2 l _ ho2.rd hsb.1 (by have := hsb.2.1; have := hbits.1; omega)).mono ?_
          rintro e w3 ⟨rfl, hb3⟩
          rw [hS']
          replace hSG := hSG.keep hb3
          replace hSX := hSX.keep hb3
          replace hB2 := bt hB2 hb3
          clear hb3 ho2
          have hSX4 := hSX.set3 (.string S)
          have hSG4 := hSG.oth hGX 3 (.string S)
          have HB4 := Lib.hid (hB2.setCell (p := ⟨X, 3, none⟩) hwX (.string S))
          obtain ⟨x0, x1, x2, x3, x4, x5⟩ := hSX
          clear hSG hB2
          have HG4 := Lib.hid hSG4
          have HX4 := Lib.hid hSX4
          clear hSG4 hSX4
          go_wp2_with fail
          clear x0 x1 x2 x3 x4 x5
          generalize (w3.setCell ⟨X, 3, none⟩ (.string S)) = W4 at *
          refine (specMessageParity_any S W4 (by omega)).mono ?_
          rintro e w5 ⟨rfl, hw5⟩
          rw [← hw5, hpr]
          clear hw5
          obtain ⟨x0, x1, x2, x3, x4, x5⟩ := HX4.out
          obtain ⟨g0, g1, g2, g3, g4, g5⟩ := HG4.out
          obtain ⟨y0, y1, y2, y3, y4, y5⟩ := Slot4.set _ (HG4.out.oth hGX 2 (.int .i64 pr)) (.int .i64 0) (.int .i64 1) (.int .i64 pr) (.string S)
          have HBf := Lib.hid (below_set4 (HB4.out.setCell (p := ⟨X, 2, none⟩) hwX (.int .i64 pr)) (Nat.le_of_lt hGw) (.int .i64 0) (.int .i64 1) (.int .i64 pr) (.string S))
          clear y0 y5
          go_wp2_with fail
          refine bodyPost_ret (v := partVal ⟨0, 1, pr, S⟩ 0) (by simp [partVal, results, Try.results22, go_sem, y1, y2, y3, y4]) rfl ⟨rfl, HBf.out⟩
        · have hr : P = (zPart, sc) := by rw [hr.out, if_neg hsc]
          subst hr
          have h0' : (sc != 0) = true := by simpa using hsc
          obtain ⟨y0, y1, y2, y3, y4, y5⟩ := Slot4.set _ hSG (.int .i64 0) (.int .i64 0) (.int .i64 0) (.string ⟨#[]⟩)
          have HBf := Lib.hid (below_set4 hB2 (Nat.le_of_lt hGw) (.int .i64 0) (.int .i64 0) (.int .i64 0) (.string ⟨#[]⟩))
          obtain ⟨g0, g1, g2, g3, g4, g5⟩ := hSG
          clear y0 y5 hB2
          go_wp2_with fail
          refine bodyPost_ret (v := partVal zPart sc) (by simp [partVal, zPart, results, Try.results22, go_sem, y1, y2, y3, y4]) rfl ⟨rfl, HBf.out⟩
      · have hd3 : decide ((3 : Int) ≤ (n1 : Int)) = true := by rw [decide_eq_true_eq]; omega
        have HNum := Lib.hid (fun W (hR : Rd .i64 W a1 n1 bs) => l01Number_any a1 n1 c1 bs 0 3 W hR (Lib.hid hbits.2) (by have := hbits.1; omega) (by omega) (by omega) (by omega) (by omega))
        rw [show (0 : Int).toNat = 0 from rfl, show (3 : Int).toNat = 3 from rfl] at HNum
        obtain ⟨N, hN⟩ : ∃ N, num (bpart bs 0 3) = N := ⟨_, rfl⟩
        rw [hN] at HNum hhd
        have hN5 : (N == 5) = false := by rw [beq_eq_false_iff_ne]; exact fun e => hhd ⟨by omega, e⟩
        go_wp2_with fail
        obtain ⟨V2, X, hV2, hX, hB2, hbX, hSX, hGX, hwX⟩ := start_x hBV 45 (.int .i64 0) (.int .i64 1) (.int .i64 0) (.string ⟨#[]⟩) z0
        rw [hV2, hX]
        have hSG := Slot4.keep ⟨z0, z1, z2, z3, z4, z5⟩ hbX
        have hw1X : w1.heap.size ≤ X := Nat.le_of_eq hX
        clear hV2 hX z0 z1 z2 z3 z4 z5 hBV
        refine (HNum.out _ (HO.out.to hbX)).mono ?_
        rintro e w9 ⟨rfl, hw9⟩
        rw [← hw9]
        clear hw9
        go_wp2_with fail
        refine (HSeg.out _ (HO.out.to hbX)).mono ?_
        rintro e w2 ⟨a2, n2, c2, rfl, hn2, ho2, hb2⟩
        obtain rfl : n2 = l.length := hn2
        clear hbX
        replace hSG := hSG.keep hb2
        replace hSX := hSX.keep hb2
        replace hB2 := bt hB2 hb2
        clear hb2
        have hXG : X ≠ G := fun e => hGX e.symm
        by_cases hsc : sc = 0
        · subst hsc
          obtain ⟨S, hS'⟩ : ∃ S, strOfNums (joinI l) = S := ⟨_, rfl⟩
          have hSz : S.size ≤ 400 := by rw [← hS', strOfNums_size, joinI_len]; exact hsb.1
          obtain ⟨pr, hpr⟩ : ∃ pr, parity (strI S) = pr := ⟨_, rfl⟩
          have hr : P = (⟨0, 1, pr, S⟩, 0) := by rw [hr.out, if_pos rfl, hS', hpr]
          subst hr
          go_wp2_with fail
          refine (l11Join_any a2 l.length c2 l _ ho2.rd hsb.1 (by have := hsb.2.1; have := hbits.1; omega)).mono ?_
          rintro e w3 ⟨rfl, hb3⟩
          rw [hS']
          replace hSG := hSG.keep hb3
          replace hSX := hSX.keep hb3
          replace hB2 := bt hB2 hb3
          clear hb3 ho2
          have hSX4 := hSX.set3 (.string S)
          have hSG4 := hSG.oth hGX 3 (.string S)
          have HB4 := Lib.hid (hB2.setCell (p := ⟨X, 3, none⟩) hwX (.string S))
          obtain ⟨x0, x1, x2, x3, x4, x5⟩ := hSX
          clear hSG hB2
          have HG4 := Lib.hid hSG4
          have HX4 := Lib.hid hSX4
          clear hSG4 hSX4
          go_wp2_with fail
          clear x0 x1 x2 x3 x4 x5
          generalize (w3.setCell ⟨X, 3, none⟩ (.string S)) = W4 at *
          refine (specMessageParity_any S W4 (by omega)).mono ?_
          rintro e w5 ⟨rfl, hw5⟩
          rw [← hw5, hpr]
          clear hw5
          obtain ⟨x0, x1, x2, x3, x4, x5⟩ := HX4.out
          obtain ⟨g0, g1, g2, g3, g4, g5⟩ := HG4.out
          obtain ⟨y0, y1, y2, y3, y4, y5⟩ := Slot4.set _ (HG4.out.oth hGX 2 (.int .i64 pr)) (.int .i64 0) (.int .i64 1) (.int .i64 pr) (.string S)
          have HBf := Lib.hid (below_set4 (HB4.out.setCell (p := ⟨X, 2, none⟩) hwX (.int .i64 pr)) (Nat.le_of_lt hGw) (.int .i64 0) (.int .i64 1) (.int .i64 pr) (.string S))
          clear y0 y5
          go_wp2_with fail
          refine bodyPost_ret (v := partVal ⟨0, 1, pr, S⟩ 0) (by simp [partVal, results, Try.results22, go_sem, y1, y2, y3, y4]) rfl ⟨rfl, HBf.out⟩
        · have hr : P = (zPart, sc) := by rw [hr.out, if_neg hsc]
          subst hr
          have h0' : (sc != 0) = true := by simpa using hsc
          obtain ⟨y0, y1, y2, y3, y4, y5⟩ := Slot4.set _ hSG (.int .i64 0) (.int .i64 0) (.int .i64 0) (.string ⟨#[]⟩)
          have HBf := Lib.hid (below_set4 hB2 (Nat.le_of_lt hGw) (.int .i64 0) (.int .i64 0) (.int .i64 0) (.string ⟨#[]⟩))
          obtain ⟨g0, g1, g2, g3, g4, g5⟩ := hSG
          clear y0 y5 hB2
          go_wp2_with fail
          refine bodyPost_ret (v := partVal zPart sc) (by simp [partVal, zPart, results, Try.results22, go_sem, y1, y2, y3, y4]) rfl ⟨rfl, HBf.out⟩
  · have hr : P = (zPart, code) := by rw [HP.out, if_neg hc]
    subst hr
    have h0 : (code != 0) = true := by simpa using hc
    have hB2 := below_set4 hBV (Nat.le_of_lt hGw) (.int .i64 0) (.int .i64 0) (.int .i64 0) (.string ⟨#[]⟩)
    obtain ⟨y0, y1, y2, y3, y4, y5⟩ := Slot4.set w1 ⟨z0, z1, z2, z3, z4, z5⟩ (.int .i64 0) (.int .i64 0) (.int .i64 0) (.string ⟨#[]⟩)
    have HB2 := Lib.hid hB2
    clear hB2 y0 y5
    go_wp2_with fail
    refine bodyPost_ret (v := partVal zPart code) (by simp [partVal, zPart, results, Try.results22, go_sem, y1, y2, y3, y4]) rfl ⟨rfl, HB2.out⟩
set_option maxHeartbeats 8000000 in
set_option maxRecDepth 20000 in
theorem implDecodePart_any (p q y : Int) (a : Option Addr) (n c : Nat) (xs : List Int) (w : World) (h : Rd .i64 w a n xs) (hn : n ≤ 1000000000) :
    Calls Try.prog 23 #[.agg #[.int .i64 p, .int .i64 q, .int .i64 y], .slice a n c] w (Ret (partVal (rPart p q y xs).1 (rPart p q y xs).2) w) := by
  have hbits := rElementBits_bits p q y xs
  have H := Lib.hid h
  clear h
  obtain ⟨R, hR⟩ : ∃ R, rElementBits p q y xs = R := ⟨_, rfl⟩
  have HE := Lib.hid (fun w (h : Rd .i64 w a n xs) => elementBits_any p q y a n c xs w h hn)
  have HP := Lib.hid (show rPart p q y xs = if R.2 = 0 then rBitsPart R.1 else (zPart, R.2) by rw [← hR]; rfl)
  rw [hR] at HE hbits
  obtain ⟨bs, code⟩ := R
  obtain ⟨P, hP⟩ : ∃ P, rPart p q y xs = P := ⟨_, rfl⟩
  rw [hP] at HP ⊢
  go_enter Try.func23, Try.ntmps23
  go_wp2_with fail
  obtain ⟨V, G, hV, hG, hBV, hGw, hS⟩ := start_dp w (.cells #[.int .i64 p, .int .i64 q, .int .i64 y] 36) 45 (.int .i64 0) (.int .i64 0) (.int .i64 0) (.string ⟨#[]⟩)
  rw [hV, hG]
  clear hV hG
  refine (HE.out _ (H.out.to hBV)).mono ?_
  rintro e w1 ⟨a1, n1, c1, rfl, ho, hb1⟩
  replace hS := hS.keep hb1
  replace hBV := bt hBV hb1
  clear hb1
  have hlen := ho.len
  obtain ⟨z0, z1, z2, z3, z4, z5⟩ := hS
  by_cases hc : code = 0
  · subst hc
    have hr := Lib.hid (show P = rBitsPart bs by rw [HP.out, if_pos rfl])
    by_cases hhd : 3 ≤ bs.length ∧ num (bpart bs 0 3) = 5
    · obtain ⟨hn3, hN5⟩ := hhd
      have HO := Lib.hid (ho.rd (fun x hx => fits_bit (hbits.2 x hx)))
      have hd3 : decide ((3 : Int) ≤ (n1 : Int)) = true := by rw [decide_eq_true_eq]; omega
      have HNum := Lib.hid (fun W (hR : Rd .i64 W a1 n1 bs) => numberAt_any a1 n1 c1 bs 0 3 W hR (Lib.hid hbits.2) (by have := hbits.1; omega) ho.cap.1 ho.cap.2 (by omega) (by omega) (by omega) (by omega))
      rw [show (0 : Int).toNat = 0 from rfl, show (3 : Int).toNat = 3 from rfl, hN5] at HNum
      have hr := Lib.hid (show P = if bs.length < 17 then (zPart, 6) else if num (bpart bs 6 3) + 1 ≤ num (bpart bs 3 3) then (zPart, 6) else tailP bs 17 (num (bpart bs 3 3)) (num (bpart bs 6 3) + 1) (some (num (bpart bs 9 8))) by rw [hr.out]; unfold rBitsPart; rw [if_pos ⟨hn3, hN5⟩])
      by_cases h17 : n1 < 17
      · have hr : P = (zPart, 6) := by rw [hr.out, if_pos (by omega)]
        subst hr
        go_wp2_with fail
        obtain ⟨V2, X, hV2, hX, hB2, hbX, hSX, hGX, hwX⟩ := start_x hBV 45 (.int .i64 0) (.int .i64 1) (.int .i64 0) (.string ⟨#[]⟩) z0
        rw [hV2, hX]
        have hSG := Slot4.keep ⟨z0, z1, z2, z3, z4, z5⟩ hbX
        have hw1X : w1.heap.size ≤ X := Nat.le_of_eq hX
        clear hV2 hX z0 z1 z2 z3 z4 z5 hBV
        refine (HNum.out _ (HO.out.to hbX)).mono ?_
        rintro e w9 ⟨rfl, hw9⟩
        rw [← hw9]
        clear hw9
        obtain ⟨y0, y1, y2, y3, y4, y5⟩ := Slot4.set _ hSG (.int .i64 0) (.int .i64 0) (.int .i64 0) (.string ⟨#[]⟩)
        have HBf := Lib.hid (below_set4 hB2 (Nat.le_of_lt hGw) (.int .i64 0) (.int .i64 0) (.int .i64 0) (.string ⟨#[]⟩))
        obtain ⟨g0, g1, g2, g3, g4, g5⟩ := hSG
        clear y0 y5 hB2
        go_wp2_with fail
        refine bodyPost_ret (v := partVal zPart 6) (by simp [partVal, zPart, results, Try.results23, go_sem, y1, y2, y3, y4]) rfl ⟨rfl, HBf.out⟩
      · have hr := Lib.hid (hr.out.trans (if_neg (by omega)))
        have HN3 := Lib.hid (fun W (hR : Rd .i64 W a1 n1 bs) => numberAt_any a1 n1 c1 bs 3 3 W hR (Lib.hid hbits.2) (by have := hbits.1; omega) ho.cap.1 ho.cap.2 (by omega) (by omega) (by omega) (by omega))
        have HN6 := Lib.hid (fun W (hR : Rd .i64 W a1 n1 bs) => numberAt_any a1 n1 c1 bs 6 3 W hR (Lib.hid hbits.2) (by have := hbits.1; omega) ho.cap.1 ho.cap.2 (by omega) (by omega) (by omega) (by omega))
        have HN9 := Lib.hid (fun W (hR : Rd .i64 W a1 n1 bs) => numberAt_any a1 n1 c1 bs 9 8 W hR (Lib.hid hbits.2) (by have := hbits.1; omega) ho.cap.1 ho.cap.2 (by omega) (by omega) (by omega) (by omega))
        rw [show (3 : Int).toNat = 3 from rfl] at HN3
        rw [show (6 : Int).toNat = 6 from rfl, show (3 : Int).toNat = 3 from rfl] at HN6
        rw [show (9 : Int).toNat = 9 from rfl, show (8 : Int).toNat = 8 from rfl] at HN9
        obtain ⟨kI, kI'⟩ := bpart_bd hbits.2 3 3 (by omega)
        obtain ⟨kC, kC'⟩ := bpart_bd hbits.2 6 3 (by omega)
        obtain ⟨kP, kP'⟩ := bpart_bd hbits.2 9 8 (by omega)
        obtain ⟨I, hI⟩ : ∃ I, num (bpart bs 3 3) = I := ⟨_, rfl⟩
        obtain ⟨C, hC⟩ : ∃ C, num (bpart bs 6 3) = C := ⟨_, rfl⟩
        obtain ⟨pr, hpr⟩ : ∃ pr, num (bpart bs 9 8) = pr := ⟨_, rfl⟩
        rw [hI] at HN3 hr kI kI'
        rw [hC] at HN6 hr kC kC'
        rw [hpr] at HN9 hr kP kP'
        have hd17 : decide ((n1 : Int) < 17) = false := by rw [decide_eq_false_iff_not]; omega
        go_wp2_with fail
        obtain ⟨V2, X, hV2, hX, hB2, hbX, hSX, hGX, hwX⟩ := start_x hBV 45 (.int .i64 0) (.int .i64 1) (.int .i64 0) (.string ⟨#[]⟩) z0
        rw [hV2, hX]
        have hSG := Slot4.keep ⟨z0, z1, z2, z3, z4, z5⟩ hbX
        have hw1X : w1.heap.size ≤ X := Nat.le_of_eq hX
        clear hV2 hX z0 z1 z2 z3 z4 z5 hBV
        refine (HNum.out _ (HO.out.to hbX)).mono ?_
        rintro e w9 ⟨rfl, hw9⟩
        rw [← hw9]
        clear hw9
        go_wp2_with fail
        refine (HN3.out _ (HO.out.to hbX)).mono ?_
        rintro e w9 ⟨rfl, hw9⟩
        rw [← hw9]
        clear hw9
        go_wp2_with fail
        refine (HN6.out _ (HO.out.to hbX)).mono ?_
        rintro e w9 ⟨rfl, hw9⟩
        rw [← hw9]
        clear hw9
        go_wp2_with fail
        refine (HN9.out _ (HO.out.to hbX)).mono ?_
        rintro e w9 ⟨rfl, hw9⟩
        rw [← hw9]
        clear hw9
        have hw6 : IntKind.i64.wrap (C + 1) = C + 1 := IntWalk.i64_in _ (by omega)
        have HX3 := Lib.hid (Slot4.set V2 hSX (.int .i64 I) (.int .i64 (C + 1)) (.int .i64 pr) (.string ⟨#[]⟩))
        have HG3 := Lib.hid ((((hSG.oth hGX 0 (.int .i64 I)).oth hGX 1 (.int .i64 (C + 1))).oth hGX 2 (.int .i64 pr)).oth hGX 3 (.string ⟨#[]⟩))
        have HB3 := Lib.hid (below_set4 hB2 hwX (.int .i64 I) (.int .i64 (C + 1)) (.int .i64 pr) (.string ⟨#[]⟩))
        have hbX3 := Lib.hid ((((hbX.setCell (p := ⟨X, 0, none⟩) hw1X (.int .i64 I)).setCell (p := ⟨X, 1, none⟩) hw1X (.int .i64 (C + 1))).setCell (p := ⟨X, 2, none⟩) hw1X (.int .i64 pr)).setCell (p := ⟨X, 3, none⟩) hw1X (.string ⟨#[]⟩))
        obtain ⟨x0, x1, x2, x3, x4, x5⟩ := hSX
        obtain ⟨m0, m1, m2, m3, m4, m5⟩ := HX3.out
        clear m0 m5 hSG hB2 hbX
        by_cases hIC : C + 1 ≤ I
        · have hdi : decide (C + 1 ≤ I) = true := by rw [decide_eq_true_eq]; exact hIC
          have hr : P = (zPart, 6) := by rw [hr.out, if_pos hIC]
          subst hr
          have hSG := HG3.out
          have hB2 := HB3.out
          obtain ⟨y0, y1, y2, y3, y4, y5⟩ := Slot4.set _ hSG (.int .i64 0) (.int .i64 0) (.int .i64 0) (.string ⟨#[]⟩)
          have HBf := Lib.hid (below_set4 hB2 (Nat.le_of_lt hGw) (.int .i64 0) (.int .i64 0) (.int .i64 0) (.string ⟨#[]⟩))
          obtain ⟨g0, g1, g2, g3, g4, g5⟩ := hSG
          clear y0 y5 hB2
          go_wp2_with fail
          refine bodyPost_ret (v := partVal zPart 6) (by simp [partVal, zPart, results, Try.results23, go_sem, y1, y2, y3, y4]) rfl ⟨rfl, HBf.out⟩
        · have hdi : decide (C + 1 ≤ I) = false := by rw [decide_eq_false_iff_not]; exact hIC
          have hr := Lib.hid (hr.out.trans (if_neg hIC))
          have HSeg := Lib.hid (fun W (hR : Rd .i64 W a1 n1 bs) => readSegments_any a1 n1 c1 17 bs W ho.cap.1 ho.cap.2 hR (Lib.hid hbits.2) (by have := hbits.1; omega) (by omega))
          obtain ⟨R2, hR2⟩ : ∃ R2, segsL bs (n1 + 1) 17 0 [] = R2 := ⟨_, rfl⟩
          have hsb := segsL_bd hbits.2 (n1 + 1) 17 0 [] rfl (by omega) (by simp) (by omega)
          rw [hR2] at HSeg hsb
          have hr := Lib.hid (show P = if R2.2 = 0 then (⟨I, C + 1, pr, strOfNums (joinI R2.1)⟩, 0) else (zPart, R2.2) by rw [hr.out]; unfold tailP; rw [hlen, hR2]; rfl)
          obtain ⟨l, sc⟩ := R2
          go_wp2_with fail
          clear x0 x1 x2 x3 x4 x5 m1 m2 m3 m4
          generalize ((((V2.setCell ⟨X, 0, none⟩ (.int .i64 I)).setCell ⟨X, 1, none⟩ (.int .i64 (C + 1))).setCell ⟨X, 2, none⟩ (.int .i64 pr)).setCell ⟨X, 3, none⟩ (.string ⟨#[]⟩)) = V3 at *
          refine (HSeg.out _ (HO.out.to hbX3.out)).mono ?_
          rintro e w2 ⟨a2, n2, c2, rfl, hn2, ho2, hb2⟩
          obtain rfl : n2 = l.length := hn2
          have hSG := HG3.out.keep hb2
          have hSX := HX3.out.keep hb2
          have hB2 := bt HB3.out hb2
          clear hb2
          by_cases hsc : sc = 0
          · subst hsc
            obtain ⟨S, hS'⟩ : ∃ S, strOfNums (joinI l) = S := ⟨_, rfl⟩
            have hr : P = (⟨I, C + 1, pr, S⟩, 0) := by rw [hr.out, if_pos rfl, hS']
            subst hr
            go_wp2_with fail
            refine (joined_any a2 l.length c2 l _ ho2.rd hsb.1 (by have := hsb.2.1; have := hbits.1; omega)).mono ?_
            rintro e w3 ⟨rfl, hb3⟩
            rw [hS']
            replace hSG := hSG.keep hb3
            replace hSX := hSX.keep hb3
            replace hB2 := bt hB2 hb3
            clear hb3 ho2
            obtain ⟨y0, y1, y2, y3, y4, y5⟩ := Slot4.set _ (hSG.oth hGX 3 (.string S)) (.int .i64 I) (.int .i64 (C + 1)) (.int .i64 pr) (.string S)
            have HBf := Lib.hid (below_set4 (hB2.setCell (p := ⟨X, 3, none⟩) hwX (.string S)) (Nat.le_of_lt hGw) (.int .i64 I) (.int .i64 (C + 1)) (.int .i64 pr) (.string S))
            obtain ⟨x0, x1, x2, x3, x4, x5⟩ := hSX
            obtain ⟨g0, g1, g2, g3, g4, g5⟩ := hSG
            clear y0 y5 hB2
            go_wp2_with fail
            refine bodyPost_ret (v := partVal ⟨I, C + 1, pr, S⟩ 0) (by simp [partVal, results, Try.results23, go_sem, y1, y2, y3, y4]) rfl ⟨rfl, HBf.out⟩
          · have hr : P = (zPart, sc) := by rw [hr.out, if_neg hsc]
            subst hr
            have h0' : (sc != 0) = true := by simpa using hsc
            obtain ⟨y0, y1, y2, y3, y4, y5⟩ := Slot4.set _ hSG (.int .i64 0) (.int .i64 0) (.int .i64 0) (.string ⟨#[]⟩)
            have HBf := Lib.hid (below_set4 hB2 (Nat.le_of_lt hGw) (.int .i64 0) (.int .i64 0) (.int .i64 0) (.string ⟨#[]⟩))
            obtain ⟨g0, g1, g2, g3, g4, g5⟩ := hSG
            clear y0 y5 hB2
            go_wp2_with fail
            refine bodyPost_ret (v := partVal zPart sc) (by simp [partVal, zPart, results, Try.results23, go_sem, y1, y2, y3, y4]) rfl ⟨rfl, HBf.out⟩
    · have hr := Lib.hid (show P = tailP bs 0 0 1 none by rw [hr.out]; unfold rBitsPart; rw [if_neg hhd])
      have HSeg := Lib.hid (fun W (hR : Rd .i64 W a1 n1 bs) => readSegments_any a1 n1 c1 0 bs W ho.cap.1 ho.cap.2 hR (Lib.hid hbits.2) (by have := hbits.1; omega) (by omega))
      obtain ⟨R2, hR2⟩ : ∃ R2, segsL bs (n1 + 1) 0 0 [] = R2 := ⟨_, rfl⟩
      have hsb := segsL_bd hbits.2 (n1 + 1) 0 0 [] rfl (by omega) (by simp) (by omega)
      rw [hR2] at HSeg hsb
      have hr := Lib.hid (show P = if R2.2 = 0 then (⟨0, 1, parity (strI (strOfNums (joinI R2.1))), strOfNums (joinI R2.1)⟩, 0) else (zPart, R2.2) by rw [hr.out]; unfold tailP; rw [hlen, hR2]; rfl)
      obtain ⟨l, sc⟩ := R2
      have HO := Lib.hid (ho.rd (fun x hx => fits_bit (hbits.2 x hx)))
      by_cases h3 : n1 < 3
      · have hd3 : decide ((3 : Int) ≤ (n1 : Int)) = false := by rw [decide_eq_false_iff_not]; omega
        go_wp2_with fail
        obtain ⟨V2, X, hV2, hX, hB2, hbX, hSX, hGX, hwX⟩ := start_x hBV 45 (.int .i64 0) (.int .i64 1) (.int .i64 0) (.string ⟨#[]⟩) z0
        rw [hV2, hX]
        have hSG := Slot4.keep ⟨z0, z1, z2, z3, z4, z5⟩ hbX
        have hw1X : w1.heap.size ≤ X := Nat.le_of_eq hX
        clear hV2 hX z0 z1 z2 z3 z4 z5 hBV
        refine (HSeg.out _ (HO.out.to hbX)).mono ?_
        rintro e w2 ⟨a2, n2, c2, rfl, hn2, ho2, hb2⟩
        obtain rfl : n2 = l.length := hn2
        clear hbX
        replace hSG := hSG.keep hb2
        replace hSX := hSX.keep hb2
        replace hB2 := bt hB2 hb2
        clear hb2
        have hXG : X ≠ G := fun e => hGX e.symm
        by_cases hsc : sc = 0
        · subst hsc
          obtain ⟨S, hS'⟩ : ∃ S, strOfNums (joinI l) = S := ⟨_, rfl⟩
          have hSz : S.size ≤ 400 := by rw [← hS', strOfNums_size, joinI_len]; exact hsb.1
          obtain ⟨pr, hpr⟩ : ∃ pr, parity (strI S) = pr := ⟨_, rfl⟩
          have hr : P = (⟨0, 1, pr, S⟩, 0) := by rw [hr.out, if_pos rfl, hS', hpr]
          subst hr
          go_wp2_with fail
          refine (joined_any a2 l.length c2 l _ ho2.rd hsb.1 (by have := hsb.2.1; have := hbits.1; omega)).mono ?_
          rintro e w3 ⟨rfl, hb3⟩
          rw [hS']
          replace hSG := hSG.keep hb3
          replace hSX := hSX.keep hb3
          replace hB2 := bt hB2 hb3
          clear hb3 ho2
          have hSX4 := hSX.set3 (.string S)
          have hSG4 := hSG.oth hGX 3 (.string S)
          have HB4 := Lib.hid (hB2.setCell (p := ⟨X, 3, none⟩) hwX (.string S))
          obtain ⟨x0, x1, x2, x3, x4, x5⟩ := hSX
          clear hSG hB2
          have HG4 := Lib.hid hSG4
          have HX4 := Lib.hid hSX4
          clear hSG4 hSX4
          go_wp2_with fail
          clear x0 x1 x2 x3 x4 x5
          generalize (w3.setCell ⟨X, 3, none⟩ (.string S)) = W4 at *
          refine (implMessageParity_any S W4 (by omega)).mono ?_
          rintro e w5 ⟨rfl, hw5⟩
          rw [← hw5, hpr]
          clear hw5
          obtain ⟨x0, x1, x2, x3, x4, x5⟩ := HX4.out
          obtain ⟨g0, g1, g2, g3, g4, g5⟩ := HG4.out
          obtain ⟨y0, y1, y2, y3, y4, y5⟩ := Slot4.set _ (HG4.out.oth hGX 2 (.int .i64 pr)) (.int .i64 0) (.int .i64 1) (.int .i64 pr) (.string S)
          have HBf := Lib.hid (below_set4 (HB4.out.setCell (p := ⟨X, 2, none⟩) hwX (.int .i64 pr)) (Nat.le_of_lt hGw) (.int .i64 0) (.int .i64 1) (.int .i64 pr) (.string S))
          clear y0 y5
          go_wp2_with fail
          refine bodyPost_ret (v := partVal ⟨0, 1, pr, S⟩ 0) (by simp [partVal, results, Try.results23, go_sem, y1, y2, y3, y4]) rfl ⟨rfl, HBf.out⟩
        · have hr : P = (zPart, sc) := by rw [hr.out, if_neg hsc]
          subst hr
          have h0' : (sc != 0) = true := by simpa using hsc
          obtain ⟨y0, y1, y2, y3, y4, y5⟩ := Slot4.set _ hSG (.int .i64 0) (.int .i64 0) (.int .i64 0) (.string ⟨#[]⟩)
          have HBf := Lib.hid (below_set4 hB2 (Nat.le_of_lt hGw) (.int .i64 0) (.int .i64 0) (.int .i64 0) (.string ⟨#[]⟩))
          obtain ⟨g0, g1, g2, g3, g4, g5⟩ := hSG
          clear y0 y5 hB2
          go_wp2_with fail
          refine bodyPost_ret (v := partVal zPart sc) (by simp [partVal, zPart, results, Try.results23, go_sem, y1, y2, y3, y4]) rfl ⟨rfl, HBf.out⟩
      · have hd3 : decide ((3 : Int) ≤ (n1 : Int)) = true := by rw [decide_eq_true_eq]; omega
        have HNum := Lib.hid (fun W (hR : Rd .i64 W a1 n1 bs) => numberAt_any a1 n1 c1 bs 0 3 W hR (Lib.hid hbits.2) (by have := hbits.1; omega) ho.cap.1 ho.cap.2 (by omega) (by omega) (by omega) (by omega))
        rw [show (0 : Int).toNat = 0 from rfl, show (3 : Int).toNat = 3 from rfl] at HNum
        obtain ⟨N, hN⟩ : ∃ N, num (bpart bs 0 3) = N := ⟨_, rfl⟩
        rw [hN] at HNum hhd
        have hN5 : (N == 5) = false := by rw [beq_eq_false_iff_ne]; exact fun e => hhd ⟨by omega, e⟩
        go_wp2_with fail
        obtain ⟨V2, X, hV2, hX, hB2, hbX, hSX, hGX, hwX⟩ := start_x hBV 45 (.int .i64 0) (.int .i64 1) (.int .i64 0) (.string ⟨#[]⟩) z0
        rw [hV2, hX]
        have hSG := Slot4.keep ⟨z0, z1, z2, z3, z4, z5⟩ hbX
        have hw1X : w1.heap.size ≤ X := Nat.le_of_eq hX
        clear hV2 hX z0 z1 z2 z3 z4 z5 hBV
        refine (HNum.out _ (HO.out.to hbX)).mono ?_
        rintro e w9 ⟨rfl, hw9⟩
        rw [← hw9]
        clear hw9
        go_wp2_with fail
        refine (HSeg.out _ (HO.out.to hbX)).mono ?_
        rintro e w2 ⟨a2, n2, c2, rfl, hn2, ho2, hb2⟩
        obtain rfl : n2 = l.length := hn2
        clear hbX
        replace hSG := hSG.keep hb2
        replace hSX := hSX.keep hb2
        replace hB2 := bt hB2 hb2
        clear hb2
        have hXG : X ≠ G := fun e => hGX e.symm
        by_cases hsc : sc = 0
        · subst hsc
          obtain ⟨S, hS'⟩ : ∃ S, strOfNums (joinI l) = S := ⟨_, rfl⟩
          have hSz : S.size ≤ 400 := by rw [← hS', strOfNums_size, joinI_len]; exact hsb.1
          obtain ⟨pr, hpr⟩ : ∃ pr, parity (strI S) = pr := ⟨_, rfl⟩
          have hr : P = (⟨0, 1, pr, S⟩, 0) := by rw [hr.out, if_pos rfl, hS', hpr]
          subst hr
          go_wp2_with fail
          refine (joined_any a2 l.length c2 l _ ho2.rd hsb.1 (by have := hsb.2.1; have := hbits.1; omega)).mono ?_
          rintro e w3 ⟨rfl, hb3⟩
          rw [hS']
          replace hSG := hSG.keep hb3
          replace hSX := hSX.keep hb3
          replace hB2 := bt hB2 hb3
          clear hb3 ho2
          have hSX4 := hSX.set3 (.string S)
          have hSG4 := hSG.oth hGX 3 (.string S)
          have HB4 := Lib.hid (hB2.setCell (p := ⟨X, 3, none⟩) hwX (.string S))
          obtain ⟨x0, x1, x2, x3, x4, x5⟩ := hSX
          clear hSG hB2
          have HG4 := Lib.hid hSG4
          have HX4 := Lib.hid hSX4
          clear hSG4 hSX4
          go_wp2_with fail
          clear x0 x1 x2 x3 x4 x5
          generalize (w3.setCell ⟨X, 3, none⟩ (.string S)) = W4 at *
          refine (implMessageParity_any S W4 (by omega)).mono ?_
          rintro e w5 ⟨rfl, hw5⟩
          rw [← hw5, hpr]
          clear hw5
          obtain ⟨x0, x1, x2, x3, x4, x5⟩ := HX4.out
          obtain ⟨g0, g1, g2, g3, g4, g5⟩ := HG4.out
          obtain ⟨y0, y1, y2, y3, y4, y5⟩ := Slot4.set _ (HG4.out.oth hGX 2 (.int .i64 pr)) (.int .i64 0) (.int .i64 1) (.int .i64 pr) (.string S)
          have HBf := Lib.hid (below_set4 (HB4.out.setCell (p := ⟨X, 2, none⟩) hwX (.int .i64 pr)) (Nat.le_of_lt hGw) (.int .i64 0) (.int .i64 1) (.int .i64 pr) (.string S))
          clear y0 y5
          go_wp2_with fail
          refine bodyPost_ret (v := partVal ⟨0, 1, pr, S⟩ 0) (by simp [partVal, results, Try.results23, go_sem, y1, y2, y3, y4]) rfl ⟨rfl, HBf.out⟩
        · have hr : P = (zPart, sc) := by rw [hr.out, if_neg hsc]
          subst hr
          have h0' : (sc != 0) = true := by simpa using hsc
          obtain ⟨y0, y1, y2, y3, y4, y5⟩ := Slot4.set _ hSG (.int .i64 0) (.int .i64 0) (.int .i64 0) (.string ⟨#[]⟩)
          have HBf := Lib.hid (below_set4 hB2 (Nat.le_of_lt hGw) (.int .i64 0) (.int .i64 0) (.int .i64 0) (.string ⟨#[]⟩))
          obtain ⟨g0, g1, g2, g3, g4, g5⟩ := hSG
          clear y0 y5 hB2
          go_wp2_with fail
          refine bodyPost_ret (v := partVal zPart sc) (by simp [partVal, zPart, results, Try.results23, go_sem, y1, y2, y3, y4]) rfl ⟨rfl, HBf.out⟩
  · have hr : P = (zPart, code) := by rw [HP.out, if_neg hc]
    subst hr
    have h0 : (code != 0) = true := by simpa using hc
    have hB2 := below_set4 hBV (Nat.le_of_lt hGw) (.int .i64 0) (.int .i64 0) (.int .i64 0) (.string ⟨#[]⟩)
    obtain ⟨y0, y1, y2, y3, y4, y5⟩ := Slot4.set w1 ⟨z0, z1, z2, z3, z4, z5⟩ (.int .i64 0) (.int .i64 0) (.int .i64 0) (.string ⟨#[]⟩)
    have HB2 := Lib.hid hB2
    clear hB2 y0 y5
    go_wp2_with fail
    refine bodyPost_ret (v := partVal zPart code) (by simp [partVal, zPart, results, Try.results23, go_sem, y1, y2, y3, y4]) rfl ⟨rfl, HB2.out⟩
end Go.Proofs.Ytnajjofaijpciaa
