/-
  The law FnExactFamilyNamed holds at every input.
  Conditions: none.
-/
import Derived.Test.YtckmenjbblgiiaaFamQ
set_option linter.unusedVariables false
namespace Go.Proofs.Ytckmenjbblgiiaa
open Go.RowKit Go.G8
theorem namedF_small (s : ByteArray) : (namedF s).1.xs.length ≤ 1000 ∧ (namedF s).1.ys.length ≤ 1000 := by
  unfold namedF
  split
  · rename_i f h
    have hm := List.mem_of_find?_eq_some h
    have : ∀ f ∈ lib5, f.xs.length ≤ 1000 ∧ f.ys.length ≤ 1000 := by decide
    exact this f hm
  · decide
theorem namedF_fits (s : ByteArray) : (∀ x ∈ (namedF s).1.xs, fits .i64 x) ∧ (∀ x ∈ (namedF s).1.ys, fits .i64 x) := by
  have hall : ∀ f ∈ lib5, (∀ x ∈ f.xs, -9223372036854775808 ≤ x ∧ x ≤ 9223372036854775807) ∧ (∀ x ∈ f.ys, -9223372036854775808 ≤ x ∧ x ≤ 9223372036854775807) := by decide
  unfold namedF
  split
  · rename_i f h
    exact hall f (List.mem_of_find?_eq_some h)
  · exact ⟨fun x hx => by simp [zeroF] at hx, fun x hx => by simp [zeroF] at hx⟩
theorem ow_two {B E : Nat} {K : IntKind} {a r t : Option Addr} {n c : Nat} {xs : List Int} {w wA wB w' : World} (h : Ow K E B w a n c xs) (h1 : Below w.heap.size w wA) (h2 : wA.grownBy wB (blk r)) (h3 : wB.grownBy w' (blk t)) (k1 : Apart a r) (k2 : Apart a t) : Ow K E B w' a n c xs := ((h.keep h1).sep h2 k1).sep h3 k2
theorem Fam8.two {G : Nat} {s : ByteArray} {K p q y co : Int} {sz lv : Value} {w wA wB w' : World} {r t : Option Addr} (h : Fam8 G s K p q y sz co lv w) (hG : G < w.heap.size) (h1 : Below w.heap.size w wA) (h2 : wA.grownBy wB (blk r)) (h3 : wB.grownBy w' (blk t)) (k1 : blk r ≠ some G) (k2 : blk t ≠ some G) : Fam8 G s K p q y sz co lv w' := by
  have s1 := h1.size
  have s2 := h2.size
  obtain ⟨g0, g1, g2, g3, g4, g5, g6, g7⟩ := h.to hG h1
  have k := fun i => (World.cell?_of_block (a := ⟨G, i, none⟩) (h3.block G (by omega) (fun e => k2 e.symm))).trans (World.cell?_of_block (a := ⟨G, i, none⟩) (h2.block G (by omega) (fun e => k1 e.symm)))
  exact ⟨(k 0).trans g0, (k 1).trans g1, (k 2).trans g2, (k 3).trans g3, (k 4).trans g4, (k 5).trans g5, (k 6).trans g6, (k 7).trans g7⟩
theorem ow_off {B E : Nat} {K : IntKind} {a : Option Addr} {n c : Nat} {xs : List Int} {w : World} (h : Ow K E B w a n c xs) {G : Nat} (hG : G < B ∨ w.heap.size ≤ G) : blk a ≠ some G := fun e => by
  have := h.lt G e
  omega
theorem below_two {B : Nat} {w0 w wA wB w' : World} {r t : Option Addr} (hb : Below B w0 w) (hB : B ≤ w0.heap.size) (h1 : Below w.heap.size w wA) (h2 : wA.grownBy wB (blk r)) (h3 : wB.grownBy w' (blk t)) (k1 : ∀ g, blk r = some g → B ≤ g) (k2 : ∀ g, blk t = some g → B ≤ g) : Below B w0 w' := by
  have s0 := hb.size
  have s1 := h1.size
  have s2 := h2.size
  exact ((hb.trans (h1.mono (by omega))).grown h2 (by omega) k1).grown h3 (by omega) k2
set_option maxHeartbeats 1000000 in
theorem law_FnExactFamilyNamed (s : ByteArray) (w : World) (h0 : s.size ≤ 9223372036854775807) :
    Calls Try.prog 9 #[.string s] w (Ret (.bool true) w) := by
  by_cases hs : s.size ≤ 1048576
  · have hd : decide ((1048576 : Int) < s.size) = false := by simp; omega
    have HS := Lib.hid (fun w => specNamed_any s w hs)
    have HI := Lib.hid (fun w => implNamed_any s w hs)
    obtain ⟨sx, sy⟩ := namedF_small s
    obtain ⟨fx, fy⟩ := namedF_fits s
    unfold RetNamed at HS HI
    generalize (namedF s).1 = F at HS HI sx sy fx fy
    generalize (namedF s).2 = cd at HS HI
    have hc : (cd != cd) = false := by simp
    have hm : (1 + (F.xs.length : Int) + (F.ys.length : Int) != 1 + (F.xs.length : Int) + (F.ys.length : Int)) = false := by simp
    have hd2 : decide (1 + (F.xs.length : Int) + (F.ys.length : Int) < 0) = false := by simp; omega
    go_enter Try.func9, Try.ntmps9
    go_wp2_with fail
    refine (HS.out _).mono ?_
    rintro e W1 ⟨⟨f1, D1⟩, rfl, hq1, ⟨oa1, ob1, ap1⟩, HB⟩
    obtain rfl : f1 = F := hq1
    unfold famCs
    simp only [] at oa1 ob1 ap1
    have al1 := Below.alloc (Below.refl W1.heap.size W1) (Nat.le_refl _) (.cells #[.string f1.nm, .int .i64 f1.kd, .int .i64 (rFieldOf f1.sz).1.1, .int .i64 (rFieldOf f1.sz).1.2.1, .int .i64 (rFieldOf f1.sz).1.2.2, .slice D1.a f1.xs.length D1.c, .int .i64 f1.co, .slice D1.b f1.ys.length D1.d] 57)
    have hs1 : (W1.alloc (.cells #[.string f1.nm, .int .i64 f1.kd, .int .i64 (rFieldOf f1.sz).1.1, .int .i64 (rFieldOf f1.sz).1.2.1, .int .i64 (rFieldOf f1.sz).1.2.2, .slice D1.a f1.xs.length D1.c, .int .i64 f1.co, .slice D1.b f1.ys.length D1.d] 57)).heap.size = W1.heap.size + 1 := by simp
    replace oa1 := oa1.keep al1
    replace ob1 := ob1.keep al1
    replace HB := bt HB al1
    have S1 := fam_new W1 f1.nm f1.kd (rFieldOf f1.sz).1.1 (rFieldOf f1.sz).1.2.1 (rFieldOf f1.sz).1.2.2 (.slice D1.a f1.xs.length D1.c) f1.co (.slice D1.b f1.ys.length D1.d) 57
    clear al1
    go_wp2_with fail
    generalize (W1.alloc (.cells #[.string f1.nm, .int .i64 f1.kd, .int .i64 (rFieldOf f1.sz).1.1, .int .i64 (rFieldOf f1.sz).1.2.1, .int .i64 (rFieldOf f1.sz).1.2.2, .slice D1.a f1.xs.length D1.c, .int .i64 f1.co, .slice D1.b f1.ys.length D1.d] 57)) = V1 at *
    refine (HI.out _).mono ?_
    rintro e W2 ⟨⟨f2, D2⟩, rfl, hq2, ⟨oa2, ob2, ap2⟩, hb2⟩
    obtain rfl : f1 = f2 := hq2.symm
    unfold famCs
    simp only [] at oa2 ob2 ap2
    have apa1a2 := apart_new oa1 oa2
    have apa1b2 := apart_new oa1 ob2
    have apb1a2 := apart_new ob1 oa2
    have apb1b2 := apart_new ob1 ob2
    have off2a := ow_off oa2 (G := W1.heap.size) (.inl (by omega))
    have off2b := ow_off ob2 (G := W1.heap.size) (.inl (by omega))
    replace oa2 := oa2.more HB.size
    replace ob2 := ob2.more HB.size
    have offs2a := ow_off oa2 (G := W2.heap.size) (.inr (Nat.le_refl _))
    have offs2b := ow_off ob2 (G := W2.heap.size) (.inr (Nat.le_refl _))
    have hz2 := hb2.size
    replace oa1 := oa1.keep hb2
    replace ob1 := ob1.keep hb2
    replace S1 := S1.to (by omega) hb2
    replace HB := bt HB hb2
    clear hb2
    have al2 := Below.alloc (Below.refl W2.heap.size W2) (Nat.le_refl _) (.cells #[.string f1.nm, .int .i64 f1.kd, .int .i64 (rFieldOf f1.sz).1.1, .int .i64 (rFieldOf f1.sz).1.2.1, .int .i64 (rFieldOf f1.sz).1.2.2, .slice D2.a f1.xs.length D2.c, .int .i64 f1.co, .slice D2.b f1.ys.length D2.d] 57)
    have hs2 : (W2.alloc (.cells #[.string f1.nm, .int .i64 f1.kd, .int .i64 (rFieldOf f1.sz).1.1, .int .i64 (rFieldOf f1.sz).1.2.1, .int .i64 (rFieldOf f1.sz).1.2.2, .slice D2.a f1.xs.length D2.c, .int .i64 f1.co, .slice D2.b f1.ys.length D2.d] 57)).heap.size = W2.heap.size + 1 := by simp
    replace oa1 := oa1.keep al2
    replace ob1 := ob1.keep al2
    replace oa2 := oa2.keep al2
    replace ob2 := ob2.keep al2
    replace S1 := S1.to (by omega) al2
    replace HB := bt HB al2
    have S2 := fam_new W2 f1.nm f1.kd (rFieldOf f1.sz).1.1 (rFieldOf f1.sz).1.2.1 (rFieldOf f1.sz).1.2.2 (.slice D2.a f1.xs.length D2.c) f1.co (.slice D2.b f1.ys.length D2.d) 57
    clear al2
    obtain ⟨s10, s11, s12, s13, s14, s15, s16, s17⟩ := id S1
    go_wp2_with fail
    generalize (W2.alloc (.cells #[.string f1.nm, .int .i64 f1.kd, .int .i64 (rFieldOf f1.sz).1.1, .int .i64 (rFieldOf f1.sz).1.2.1, .int .i64 (rFieldOf f1.sz).1.2.2, .slice D2.a f1.xs.length D2.c, .int .i64 f1.co, .slice D2.b f1.ys.length D2.d] 57)) = V2 at *
    clear s10 s11 s12 s13 s14 s15 s16 s17
    refine (eqFamily_same _ _ _ _ _ _ _ _ _ _ _ _ _ _ _ _ _ _ f1.xs f1.ys _ (oa2.rd fx) (by omega) (ob2.rd fy) (by omega) (oa1.rd fx) (ob1.rd fy)).mono ?_
    rintro e W3 ⟨rfl, hb3⟩
    have hz3 := hb3.size
    replace oa1 := oa1.keep hb3
    replace ob1 := ob1.keep hb3
    replace oa2 := oa2.keep hb3
    replace ob2 := ob2.keep hb3
    replace S1 := S1.to (by omega) hb3
    replace S2 := S2.to (by omega) hb3
    replace HB := bt HB hb3
    clear hb3
    obtain ⟨s20, s21, s22, s23, s24, s25, s26, s27⟩ := id S2
    go_wp2_with fail
    clear s20 s21 s22 s23 s24 s25 s26 s27
    refine (markFamily_any w.heap.size _ _ _ _ _ _ _ _ _ _ _ _ f1.xs f1.ys 1 _ oa2 ob2 ap2 (by omega) (by omega) (by omega) (by omega)).mono ?_
    rintro e W4 ⟨rfl, na2, nb2, wA, wB, t1, t2, t3⟩
    have hz4 : W3.heap.size ≤ W4.heap.size := Nat.le_trans t1.size (Nat.le_trans t2.size t3.size)
    replace oa1 := ow_two oa1 t1 t2 t3 apa1a2 apa1b2
    replace ob1 := ow_two ob1 t1 t2 t3 apb1a2 apb1b2
    replace S1 := S1.two (by omega) t1 t2 t3 off2a off2b
    replace S2 := S2.two (by omega) t1 t2 t3 offs2a offs2b
    replace HB := below_two HB (Nat.le_refl _) t1 t2 t3 (fun g e => (oa2.lt g e).1) (fun g e => (ob2.lt g e).1)
    replace oa2 := na2
    replace ob2 := nb2
    clear na2 nb2 t1 t2 t3
    obtain ⟨s20, s21, s22, s23, s24, s25, s26, s27⟩ := id S2
    go_wp2_with fail
    clear s20 s21 s22 s23 s24 s25 s26 s27
    refine (heldFamily_seq _ _ _ _ _ _ _ _ _ _ _ _ 1 _ (oa2.rd (seqI_fits _ _ (by omega) (by omega))) (ob2.rd (seqI_fits _ _ (by omega) (by omega))) (by omega) (by omega) (by omega) (by omega)).mono ?_
    rintro e W5 ⟨rfl, hb5⟩
    have hz5 := hb5.size
    replace oa1 := oa1.keep hb5
    replace ob1 := ob1.keep hb5
    replace oa2 := oa2.keep hb5
    replace ob2 := ob2.keep hb5
    replace S1 := S1.to (by omega) hb5
    replace S2 := S2.to (by omega) hb5
    replace HB := bt HB hb5
    clear hb5
    go_wp2_with fail
    refine (HI.out _).mono ?_
    rintro e W6 ⟨⟨f3, D6⟩, rfl, hq3, ⟨oa6, ob6, ap6⟩, hb6⟩
    obtain rfl : f1 = f3 := hq3.symm
    unfold famCs
    simp only [] at oa6 ob6 ap6
    replace oa6 := oa6.more HB.size
    replace ob6 := ob6.more HB.size
    have hz6 := hb6.size
    replace oa1 := oa1.keep hb6
    replace ob1 := ob1.keep hb6
    replace oa2 := oa2.keep hb6
    replace ob2 := ob2.keep hb6
    replace S1 := S1.to (by omega) hb6
    replace S2 := S2.to (by omega) hb6
    replace HB := bt HB hb6
    clear hb6
    have al6 := Below.alloc (Below.refl W6.heap.size W6) (Nat.le_refl _) (.cells #[.string f1.nm, .int .i64 f1.kd, .int .i64 (rFieldOf f1.sz).1.1, .int .i64 (rFieldOf f1.sz).1.2.1, .int .i64 (rFieldOf f1.sz).1.2.2, .slice D6.a f1.xs.length D6.c, .int .i64 f1.co, .slice D6.b f1.ys.length D6.d] 57)
    have hs6 : (W6.alloc (.cells #[.string f1.nm, .int .i64 f1.kd, .int .i64 (rFieldOf f1.sz).1.1, .int .i64 (rFieldOf f1.sz).1.2.1, .int .i64 (rFieldOf f1.sz).1.2.2, .slice D6.a f1.xs.length D6.c, .int .i64 f1.co, .slice D6.b f1.ys.length D6.d] 57)).heap.size = W6.heap.size + 1 := by simp
    replace oa1 := oa1.keep al6
    replace ob1 := ob1.keep al6
    replace oa2 := oa2.keep al6
    replace ob2 := ob2.keep al6
    replace oa6 := oa6.keep al6
    replace ob6 := ob6.keep al6
    replace S1 := S1.to (by omega) al6
    replace S2 := S2.to (by omega) al6
    replace HB := bt HB al6
    have S6 := fam_new W6 f1.nm f1.kd (rFieldOf f1.sz).1.1 (rFieldOf f1.sz).1.2.1 (rFieldOf f1.sz).1.2.2 (.slice D6.a f1.xs.length D6.c) f1.co (.slice D6.b f1.ys.length D6.d) 57
    clear al6
    obtain ⟨s10, s11, s12, s13, s14, s15, s16, s17⟩ := id S1
    go_wp2_with fail
    generalize (W6.alloc (.cells #[.string f1.nm, .int .i64 f1.kd, .int .i64 (rFieldOf f1.sz).1.1, .int .i64 (rFieldOf f1.sz).1.2.1, .int .i64 (rFieldOf f1.sz).1.2.2, .slice D6.a f1.xs.length D6.c, .int .i64 f1.co, .slice D6.b f1.ys.length D6.d] 57)) = V6 at *
    clear s10 s11 s12 s13 s14 s15 s16 s17
    refine (eqFamily_same _ _ _ _ _ _ _ _ _ _ _ _ _ _ _ _ _ _ f1.xs f1.ys _ (oa6.rd fx) (by omega) (ob6.rd fy) (by omega) (oa1.rd fx) (ob1.rd fy)).mono ?_
    rintro e W7 ⟨rfl, hb7⟩
    have hz7 := hb7.size
    replace oa1 := oa1.keep hb7
    replace ob1 := ob1.keep hb7
    replace oa2 := oa2.keep hb7
    replace ob2 := ob2.keep hb7
    replace oa6 := oa6.keep hb7
    replace ob6 := ob6.keep hb7
    replace S1 := S1.to (by omega) hb7
    replace S2 := S2.to (by omega) hb7
    replace S6 := S6.to (by omega) hb7
    replace HB := bt HB hb7
    clear hb7
    obtain ⟨s20, s21, s22, s23, s24, s25, s26, s27⟩ := id S2
    go_wp2_with fail
    clear s20 s21 s22 s23 s24 s25 s26 s27
    refine (heldFamily_seq _ _ _ _ _ _ _ _ _ _ _ _ 1 _ (oa2.rd (seqI_fits _ _ (by omega) (by omega))) (ob2.rd (seqI_fits _ _ (by omega) (by omega))) (by omega) (by omega) (by omega) (by omega)).mono ?_
    rintro e W8 ⟨rfl, hb8⟩
    replace HB := bt HB hb8
    go_wp2_with fail
    go_ret
    exact ⟨rfl, HB⟩
  · have hd : decide ((1048576 : Int) < s.size) = true := by simp; omega
    go_enter Try.func9, Try.ntmps9
    go_wp2_with fail
    go_ret
    exact ⟨rfl, Below.refl _ _⟩
end Go.Proofs.Ytckmenjbblgiiaa
