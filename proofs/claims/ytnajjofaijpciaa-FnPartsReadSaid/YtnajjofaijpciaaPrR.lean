/-
  Contract: the elements of a part that the reference draws for its law.
  Conditions: codes of at most 4096 bytes.
-/
import Derived.Test.YtnajjofaijpciaaPrQ
import Derived.Test.YtnajjofaijpciaaMg42
set_option linter.unusedVariables false
namespace Go.Proofs.Ytnajjofaijpciaa
open Go.RowKit Go.G8
/-- A field and elements drawn for a law. -/
def DrawnL (w : World) (e : Ending) (w' : World) : Prop :=
  ∃ (p q y : Int) (a : Option Addr) (n c : Nat) (zs : List Int), e = .returned (.tuple #[.agg #[.int .i64 p, .int .i64 q, .int .i64 y], .slice a n c]) ∧ (-200000 ≤ p ∧ p ≤ 200000) ∧ (-200000 ≤ q ∧ q ≤ 200000) ∧ (-200000 ≤ y ∧ y ≤ 200000) ∧ n ≤ 1500 ∧ (∀ z ∈ zs, fits .i64 z) ∧ Ow .i64 2 w.heap.size w' a n c zs ∧ Below w.heap.size w w'
theorem below_set3 {w W : World} {G : Nat} (h : Below w.heap.size w W) (hG : w.heap.size ≤ G) (x y z : Value) : Below w.heap.size w (((W.setCell ⟨G, 0, none⟩ x).setCell ⟨G, 1, none⟩ y).setCell ⟨G, 2, none⟩ z) :=
  ((h.setCell hG _).setCell hG _).setCell hG _
set_option maxHeartbeats 4000000 in
set_option maxRecDepth 20000 in
theorem drawDecodePart_any (a : Option Addr) (n c : Nat) (xs : List Int) (w : World) (h : Rd .u8 w a n xs) (hn : n ≤ 4096) :
    Calls Try.prog 26 #[.slice a n c] w (DrawnL w) := by
  obtain ⟨V, hV⟩ : ∃ V, w.alloc (.cells #[.int .i64 0, .int .i64 0, .int .i64 0] 36) = V := ⟨_, rfl⟩
  have hP0 := Slot3.new w (.int .i64 0) (.int .i64 0) (.int .i64 0) 36
  have hB0 : Below w.heap.size w (w.alloc (.cells #[.int .i64 0, .int .i64 0, .int .i64 0] 36)) := Below.alloc (Below.refl w.heap.size w) (Nat.le_refl _) _
  have hR0 := h.to hB0
  rw [hV] at hP0 hB0 hR0
  clear h
  go_enter Try.func26, Try.ntmps26
  go_wp2_with fail
  clear hV
  refine (l01From_any a n c xs _ hR0 hn).mono ?_
  rintro e w1 ⟨S, rfl, hS, hb1⟩
  have hSl := Src_le hS
  have hG1 := hP0.lt
  have hP1 := hP0.keep hb1
  have hT1 := StS.start hS
  have hB1 := bt hB0 hb1
  have hne : w.heap.size ≠ S := by omega
  have hw1 : V.heap.size ≤ w1.heap.size := hb1.size
  clear hP0 hR0 hb1 hB0
  go_wp2_with fail
  refine (l01Next_any _ S 4 _ hT1.1 (by decide)).mono ?_
  rintro e w2 ⟨r, rfl, ha0, ha1, hS2, hg2⟩
  have hP2 := hP1.grow hg2 hne
  have hT2 := hT1.next hS2 hg2
  clear hP1 hT1 hS2 hg2
  by_cases hr : r = 0
  · subst hr
    clear ha0 ha1
    go_wp2_with fail
    refine (l11Draw_any _ S _ hT2.1).mono ?_
    rintro e w3 ⟨p, q, y, a3, n3, c3, zs, rfl, hp, hq, hy, hn3, hz3, ho3, hS3, hg3⟩
    have hP3 := hP2.grow hg3 hne
    have hT3 := hT2.next hS3 hg3
    have hG2 := hP2.lt
    clear hP2 hT2 hS3 hg3
    obtain ⟨s0, s1, s2, s3, s4⟩ := id hP3
    go_wp2_with fail
    have hBW : Below w.heap.size w w3 := hB1.grown hT3.2 (by omega) (fun k e => by injection e with e; omega)
    obtain ⟨z0, z1, z2, z3, z4⟩ := hP3.set (.int .i64 p) (.int .i64 q) (.int .i64 y)
    have hTz := below_set3 hBW (Nat.le_refl _) (.int .i64 p) (.int .i64 q) (.int .i64 y)
    have hoz := Ow.set3 (G := w.heap.size) (x := .int .i64 p) (y := .int .i64 q) (z := .int .i64 y) ho3 (by omega)
    exact bodyPost_ret (v := .tuple #[.agg #[.int .i64 p, .int .i64 q, .int .i64 y], .slice a3 n3 c3]) (by simp [results, Try.results26, go_sem, z1, z2, z3]) rfl ⟨p, q, y, _, _, _, zs, rfl, hp, hq, hy, hn3, hz3, hoz.more (by omega), hTz⟩
  · have h0 : (r == 0) = false := by rw [beq_eq_false_iff_ne]; exact hr
    clear hr ha0 ha1
    go_wp2_with fail
    refine (l02DrawAny_any _ S _ hT2.1).mono ?_
    rintro e w3 ⟨p, q, y, rfl, hp, hq, hy, hS3, hg3⟩
    have hP3 := hP2.grow hg3 hne
    have hT3 := hT2.next hS3 hg3
    have hneF : w3.heap.size ≠ S := by have := (Src_le hS3).2.2; omega
    have hGF : w.heap.size < w3.heap.size := hP3.lt
    have hw3 : w1.heap.size ≤ w3.heap.size := hT3.2.size
    obtain ⟨V1, hV1⟩ : ∃ V, w3.alloc (.cells #[.int .i64 p, .int .i64 q, .int .i64 y] 36) = V := ⟨_, rfl⟩
    have hF4 := Slot3.new w3 (.int .i64 p) (.int .i64 q) (.int .i64 y) 36
    have hal3 : Below w3.heap.size w3 (w3.alloc (.cells #[.int .i64 p, .int .i64 q, .int .i64 y] 36)) := Below.alloc (Below.refl _ _) (Nat.le_refl _) _
    have hJ4 : Fr V.heap.size S w.heap.size w3.heap.size w1 (w3.alloc (.cells #[.int .i64 p, .int .i64 q, .int .i64 y] 36)) p q y := ⟨hT3.below hal3, hP3.keep hal3, hF4⟩
    rw [hV1] at hJ4
    clear hP2 hT2 hP3 hT3 hF4 hS3 hg3 hal3
    go_wp2_with fail
    clear hV1
    refine (l12Draw_any _ S _ hJ4.st.1).mono ?_
    rintro e w5 ⟨ix, ct, pr, s, rfl, hix, hct, hpr, hs, hS5, hg5⟩
    have hJ5 := hJ4.next hne hneF hS5 hg5
    clear hJ4 hS5 hg5
    obtain ⟨V5, hV5⟩ : ∃ V, w5.alloc (.cells #[.int .i64 ix, .int .i64 ct, .int .i64 pr, .string s] 45) = V := ⟨_, rfl⟩
    have hX6 := Slot4.new w5 (.int .i64 ix) (.int .i64 ct) (.int .i64 pr) (.string s) 45
    have hJ6 := hJ5.below (Below.alloc (Below.refl _ _) (Nat.le_refl _) (.cells #[.int .i64 ix, .int .i64 ct, .int .i64 pr, .string s] 45))
    have hXF : w3.heap.size < w5.heap.size := hJ5.f.lt
    have hneX : w5.heap.size ≠ S := by have := (Src_le hJ5.st.1).2.2; omega
    rw [hV5] at hX6 hJ6
    clear hJ5
    obtain ⟨s0, s1, s2, s3, s4⟩ := id hJ6.f
    obtain ⟨x0, x1, x2, x3, x4, x5⟩ := id hX6
    go_wp2_with fail
    refine (payloadSize_any p q y s s.size _ rfl (by omega)).mono ?_
    rintro e w7 ⟨sz, code, rfl, hsz, hb7⟩
    have hJ7 := hJ6.below hb7
    have hX7 := hX6.keep hb7
    have ew : IntKind.i64.wrap (sz + 9) = sz + 9 := IntWalk.i64_in _ (by omega)
    clear hJ6 hX6 hb7 s0 s1 s2 s3 s4 x0 x1 x2 x3 x4 x5
    obtain ⟨s0, s1, s2, s3, s4⟩ := id hJ7.f
    obtain ⟨x0, x1, x2, x3, x4, x5⟩ := id hX7
    go_wp2_with fail
    refine (encodePart_any p q y ix ct pr (sz + 9) s s.size _ rfl (by omega) (by omega) hix hct hpr).mono ?_
    rintro e w8 ⟨a5, k5, c5, zs, code5, rfl, ho8, hz5, hc5, hk5, hb8⟩
    have hJ8 := hJ7.below hb8
    replace ho8 := ho8.more (B' := w3.heap.size + 1) (by have := hJ7.f.lt; omega)
    clear hJ7 hX7 hb8 ew s0 s1 s2 s3 s4 x0 x1 x2 x3 x4 x5
    obtain ⟨s0, s1, s2, s3, s4⟩ := id hJ8.f
    obtain ⟨g0, g1, g2, g3, g4⟩ := id hJ8.g
    by_cases hcode : code5 = 0
    · subst hcode
      obtain ⟨hf, hk9, -⟩ := hc5 rfl
      have hk10 : 9 ≤ k5 := by omega
      clear hk9
      obtain ⟨gb, rfl, hgb1, hgb2⟩ := ho8.form (by omega)
      have h0 : ((0 : Int) != 0) = false := by simp
      clear hc5
      go_wp2_with fail
      refine (l01Next_any _ S 10 _ hJ8.st.1 (by decide)).mono ?_
      rintro e w9 ⟨r2, rfl, ha0, ha1, hS9, hg9⟩
      have hJ9 := hJ8.next hne hneF hS9 hg9
      have hlw := hJ9.st.2.size
      have hgS : gb ≠ S := by omega
      have ho9 := Ow.sep (a' := some ⟨S, 0, none⟩) ho8 hg9 (fun g h1 h2 => by simp [blk] at h1 h2; omega)
      clear ho8 hg9 hS9 hJ8 hgb2 s0 s1 s2 s3 s4 g0 g1 g2 g3 g4
      obtain ⟨s0, s1, s2, s3, s4⟩ := id hJ9.f
      obtain ⟨g0, g1, g2, g3, g4⟩ := id hJ9.g
      have hFg : w3.heap.size ≠ gb := by omega
      have hGg : w.heap.size ≠ gb := by omega
      have hfb := fsize_bd hf
      have HSz := Lib.hid (fun W => l02Size_any (p := p) (q := q) (y := y) W hf)
      obtain ⟨z, hz⟩ : ∃ z, fsize p q = z := ⟨_, rfl⟩
      rw [hz] at hfb HSz
      clear hz hf
      by_cases hq0 : r2 = 0
      · subst hq0
        have hJJ : Fr V.heap.size S w.heap.size w3.heap.size w1 w9 p q y ∧ Ow .i64 2 (w3.heap.size + 1) w9 (some ⟨gb, 0, none⟩) k5 c5 zs := ⟨hJ9, ho9⟩
        have HX := Lib.hid (fun W W' (hJ : Fr V.heap.size S w.heap.size w3.heap.size w1 W p q y ∧ Ow .i64 2 (w3.heap.size + 1) W (some ⟨gb, 0, none⟩) k5 c5 zs) hS hg => And.intro (hJ.1.next (W' := W') hne hneF hS hg) (Ow.sep (a' := some ⟨S, 0, none⟩) hJ.2 hg (fun g h1 h2 => by simp [blk] at h1 h2; omega)))
        have HB := Lib.hid (fun W W' (hJ : Fr V.heap.size S w.heap.size w3.heap.size w1 W p q y ∧ Ow .i64 2 (w3.heap.size + 1) W (some ⟨gb, 0, none⟩) k5 c5 zs) hb => And.intro (hJ.1.below (W' := W') hb) (hJ.2.keep hb))
        have HD := Lib.hid (fun W (hJ : Fr V.heap.size S w.heap.size w3.heap.size w1 W p q y ∧ Ow .i64 2 (w3.heap.size + 1) W (some ⟨gb, 0, none⟩) k5 c5 zs) => And.intro (hJ.1.drew) (hJ.2.keep (Below.refl _ _).drew))
        have HN := Lib.hid (fun W (n : Int) (hn : n ≤ 9223372036854775807 ∧ -9223372036854775808 ≤ n) (hJ : Fr V.heap.size S w.heap.size w3.heap.size w1 W p q y ∧ Ow .i64 2 (w3.heap.size + 1) W (some ⟨gb, 0, none⟩) k5 c5 zs) => l01Next_any V.heap.size S n W hJ.1.st.1 hn)
        clear ha0 ha1 hJ9 ho9
        go_wp2_with fail
        go_region_held3 (fun w' => w'.cell? ⟨w3.heap.size, 0, none⟩ = some (.int .i64 p) ∧ w'.cell? ⟨w3.heap.size, 1, none⟩ = some (.int .i64 q) ∧ w'.cell? ⟨w3.heap.size, 2, none⟩ = some (.int .i64 y)) (first | exact hJc.1.cells | exact (hJc.1.f.oth hFg _ _).cells | exact hJb.1.cells | exact hJb.1.drew.cells | exact hJa.1.cells | exact hJa.1.drew.cells | exact hJJ.1.cells | exact hJJ.1.drew.cells | go_keep) (first
          | (go_at_call_of 46 (Value.int IntKind.i64 z); (with_reducible refine (HN.out _ z (by omega) (by first | exact hJb | exact HD.out _ hJb)).mono ?_); rintro e w12 ⟨v, rfl, hv0, hv1, hSc, hgc⟩; have hJc := HX.out _ _ (by first | exact hJb | exact HD.out _ hJb) hSc hgc; have hvb : 0 ≤ v ∧ v ≤ 1021 := (by omega); have hcell := hJc.2.cell hx; have hfz := hJc.2.free k; clear hv0 hv1 hSc hgc)
          | (go_at_call 52; (with_reducible refine (HSz.out _).mono ?_); rintro e w11 ⟨rfl, hbb⟩; have hJb := HB.out _ _ (by first | exact hJa | exact HD.out _ hJa) hbb; clear hbb)
          | (go_at_call_of 46 (Value.int IntKind.i64 (k5 : Int)); (with_reducible refine (HN.out _ (k5 : Int) (by omega) (by first | exact hJJ | exact HD.out _ hJJ)).mono ?_); rintro e w10 ⟨r3, rfl, ha0, ha1, hSa, hga⟩; obtain ⟨k, rfl⟩ := Int.eq_ofNat_of_zero_le ha0; have hJa := HX.out _ _ (by first | exact hJJ | exact HD.out _ hJJ) hSa hga; have hk : k < k5 := (by omega); obtain ⟨x, hx⟩ : ∃ x, zs[k]? = some x := ⟨_, List.getElem?_eq_getElem (by have := hJa.2.len; omega)⟩; have b0 : (0 : Int) ≤ (k : Int) := (by omega); have b1 : (k : Int) < (k5 : Int) := (by omega); clear ha0 ha1 hSa hga))
        rename_i hHeld
        clear hHeld
        have hgw : w1.heap.size ≤ gb := by omega
        have hJ10 : Fr V.heap.size S w.heap.size w3.heap.size w1 (w12.setCell ⟨gb, k, none⟩ (.int .i64 v)) p q y := ⟨hJc.1.st.set hgS hgw (by omega), hJc.1.g.oth hGg _ _, hJc.1.f.oth hFg _ _⟩
        have ho10 := hJc.2.set_ k v
        have hz10 : ∀ z ∈ zs.set k v, fits .i64 z := fun z hz => by
          rcases List.mem_or_eq_of_mem_set hz with h1 | h1
          · exact hz5 z h1
          · subst h1; show -9223372036854775808 ≤ z ∧ z ≤ 9223372036854775807; omega
        obtain ⟨W, hW⟩ : ∃ W, w12.setCell ⟨gb, k, none⟩ (.int .i64 v) = W := ⟨_, rfl⟩
        rw [hW] at hJ10 ho10 ⊢
        clear hJc hJb hJa hJJ hcell hfz hW HX HB HD HN HSz hx s0 s1 s2 s3 s4 g0 g1 g2 g3 g4
        obtain ⟨s0, s1, s2, s3, s4⟩ := id hJ10.f
        obtain ⟨g0, g1, g2, g3, g4⟩ := id hJ10.g
        go_wp2_with fail
        have hBW := hB1.grown hJ10.st.2 (by omega) (fun k e => by injection e with e; omega)
        obtain ⟨z0, z1, z2, z3, z4⟩ := hJ10.g.set (.int .i64 p) (.int .i64 q) (.int .i64 y)
        have hTz := below_set3 hBW (Nat.le_refl _) (.int .i64 p) (.int .i64 q) (.int .i64 y)
        have hoz := Ow.set3 (G := w.heap.size) (x := .int .i64 p) (y := .int .i64 q) (z := .int .i64 y) ho10 (by omega)
        exact bodyPost_ret (v := .tuple #[.agg #[.int .i64 p, .int .i64 q, .int .i64 y], .slice (some ⟨gb, 0, none⟩) k5 c5]) (by simp [results, Try.results26, go_sem, z1, z2, z3]) rfl ⟨p, q, y, _, _, _, _, rfl, hp, hq, hy, hk5, hz10, hoz.more (by omega), hTz⟩
      · by_cases hq1 : r2 = 1
        · subst hq1
          clear ha0 ha1 hq0
          go_wp2_with fail
          refine (l01Next_any _ S 4 _ hJ9.st.1 (by omega)).mono ?_
          rintro e w10 ⟨r3, rfl, ha0, ha1, hSa, hga⟩
          obtain ⟨k, rfl⟩ := Int.eq_ofNat_of_zero_le ha0
          have hk : k ≤ k5 := by omega
          have hJa := hJ9.next hne hneF hSa hga
          have hoa := Ow.take (Ow.sep (a' := some ⟨S, 0, none⟩) ho9 hga (fun g h1 h2 => by simp [blk] at h1 h2; omega)) hk
          have hcp := ho9.cap
          clear ho9 hga hSa hJ9 s0 s1 s2 s3 s4 g0 g1 g2 g3 g4 ha0 ha1
          obtain ⟨s0, s1, s2, s3, s4⟩ := id hJa.f
          obtain ⟨g0, g1, g2, g3, g4⟩ := id hJa.g
          have b0 : (0 : Int) ≤ (k : Int) := by omega
          have b1 : (k : Int) ≤ (c5 : Int) := by omega
          go_wp2_with fail
          have hBW := hB1.grown hJa.st.2 (by omega) (fun k e => by injection e with e; omega)
          obtain ⟨z0, z1, z2, z3, z4⟩ := hJa.g.set (.int .i64 p) (.int .i64 q) (.int .i64 y)
          have hTz := below_set3 hBW (Nat.le_refl _) (.int .i64 p) (.int .i64 q) (.int .i64 y)
          have hoz := Ow.set3 (G := w.heap.size) (x := .int .i64 p) (y := .int .i64 q) (z := .int .i64 y) hoa (by omega)
          exact bodyPost_ret (v := .tuple #[.agg #[.int .i64 p, .int .i64 q, .int .i64 y], .slice (some ⟨gb, 0, none⟩) k c5]) (by simp [results, Try.results26, go_sem, z1, z2, z3]) rfl ⟨p, q, y, _, _, _, zs.take k, rfl, hp, hq, hy, by omega, (fun z hz => hz5 z (List.mem_of_mem_take hz)), hoz.more (by omega), hTz⟩
        · have i0 : (r2 == 0) = false := by rw [beq_eq_false_iff_ne]; exact hq0
          have i1 : (r2 == 1) = false := by rw [beq_eq_false_iff_ne]; exact hq1
          clear hq0 hq1
          go_wp2_with fail
          have hBW := hB1.grown hJ9.st.2 (by omega) (fun k e => by injection e with e; omega)
          obtain ⟨z0, z1, z2, z3, z4⟩ := hJ9.g.set (.int .i64 p) (.int .i64 q) (.int .i64 y)
          have hTz := below_set3 hBW (Nat.le_refl _) (.int .i64 p) (.int .i64 q) (.int .i64 y)
          have hoz := Ow.set3 (G := w.heap.size) (x := .int .i64 p) (y := .int .i64 q) (z := .int .i64 y) ho9 (by omega)
          exact bodyPost_ret (v := .tuple #[.agg #[.int .i64 p, .int .i64 q, .int .i64 y], .slice (some ⟨gb, 0, none⟩) k5 c5]) (by simp [results, Try.results26, go_sem, z1, z2, z3]) rfl ⟨p, q, y, _, _, _, zs, rfl, hp, hq, hy, hk5, hz5, hoz.more (by omega), hTz⟩
    · have h0 : (code5 != 0) = true := by simpa using hcode
      clear hcode hc5
      go_wp2_with fail
      have hZ := hJ8.g.set (.int .i64 p) (.int .i64 q) (.int .i64 y)
      have hBW := hB1.grown hJ8.st.2 (by omega) (fun k e => by injection e with e; omega)
      have hTz := below_set3 hBW (Nat.le_refl _) (.int .i64 p) (.int .i64 q) (.int .i64 y)
      have hws : (((w8.setCell ⟨w.heap.size, 0, none⟩ (.int .i64 p)).setCell ⟨w.heap.size, 1, none⟩ (.int .i64 q)).setCell ⟨w.heap.size, 2, none⟩ (.int .i64 y)).heap.size = w8.heap.size := by simp
      have hoz := Ow.lit (K := .i64) (E := 2) (xs := [5, 1]) (B := w.heap.size) (((w8.setCell ⟨w.heap.size, 0, none⟩ (.int .i64 p)).setCell ⟨w.heap.size, 1, none⟩ (.int .i64 q)).setCell ⟨w.heap.size, 2, none⟩ (.int .i64 y)) (by rw [hws]; omega) (by decide)
      rw [hws] at hoz
      have hal := Below.alloc (Below.refl _ (((w8.setCell ⟨w.heap.size, 0, none⟩ (.int .i64 p)).setCell ⟨w.heap.size, 1, none⟩ (.int .i64 q)).setCell ⟨w.heap.size, 2, none⟩ (.int .i64 y))) (Nat.le_refl _) (.cells #[.int .i64 5, .int .i64 1] 2)
      replace hTz := bt hTz hal
      obtain ⟨z0, z1, z2, z3, z4⟩ := hZ.keep hal
      exact bodyPost_ret (v := .tuple #[.agg #[.int .i64 p, .int .i64 q, .int .i64 y], .slice (some ⟨w8.heap.size, 0, none⟩) 2 2]) (by simp [results, Try.results26, go_sem, z1, z2, z3]) rfl ⟨p, q, y, _, _, _, [5, 1], rfl, hp, hq, hy, by omega, (fun z hz => by simp at hz; show -9223372036854775808 ≤ z ∧ z ≤ 9223372036854775807; omega), hoz, hTz⟩
end Go.Proofs.Ytnajjofaijpciaa
