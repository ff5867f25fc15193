/-
  Contract: the elements of a payload that the reference draws.
  Conditions: codes of at most 4096 bytes.
-/
import Derived.Test.YtnajjofaijpciaaMg35
import Derived.Test.YtnajjofaijpciaaPrJ
set_option linter.unusedVariables false
namespace Go.Proofs.Ytnajjofaijpciaa
open Go.RowKit Go.G8
/-- A slot of three cells. -/
structure Slot3 (W : World) (G : Nat) (a b c : Value) : Prop where
  lt : G < W.heap.size
  c0 : W.cell? ⟨G, 0, none⟩ = some a
  c1 : W.cell? ⟨G, 1, none⟩ = some b
  c2 : W.cell? ⟨G, 2, none⟩ = some c
  fz : ∀ i, W.frozen? ⟨G, i, none⟩ = false
theorem Slot3.keep {W W' : World} {G : Nat} {a b c : Value} (h : Slot3 W G a b c) (hb : Below W.heap.size W W') : Slot3 W' G a b c := by
  obtain ⟨hcc, hff⟩ := bcell hb
  exact ⟨Nat.lt_of_lt_of_le h.lt hb.size, (hcc _ 0 h.lt).trans h.c0, (hcc _ 1 h.lt).trans h.c1, (hcc _ 2 h.lt).trans h.c2, fun i => (hff _ i h.lt).trans (h.fz i)⟩
theorem Slot3.grow {W W' : World} {G S : Nat} {a b c : Value} (h : Slot3 W G a b c) (hg : W.grownBy W' (some S)) (hne : G ≠ S) : Slot3 W' G a b c :=
  ⟨Nat.lt_of_lt_of_le h.lt hg.size, (gcell hg h.lt hne 0).1.trans h.c0, (gcell hg h.lt hne 1).1.trans h.c1, (gcell hg h.lt hne 2).1.trans h.c2, fun i => (gcell hg h.lt hne i).2.trans (h.fz i)⟩
theorem Slot3.new (W : World) (a b c : Value) (T : TypeId) : Slot3 (W.alloc (.cells #[a, b, c] T)) W.heap.size a b c := by
  refine ⟨by simp, ?_, ?_, ?_, fun i => frozen_of_row _ _ _ _ _ (heap_alloc_new W _)⟩ <;> (rw [cell_of_row _ _ _ _ _ (0, 0) (heap_alloc_new W _)]; rfl)
theorem set_grow (W : World) (g i : Nat) (v : Value) : W.grownBy (W.setCell ⟨g, i, none⟩ v) (some g) := ⟨rfl, rfl, rfl, by simp, fun q hq hne => Below.heap_setCell W _ _ q (fun e => hne (by rw [e]))⟩
theorem Slot3.oth {W : World} {G X : Nat} {a b c : Value} (h : Slot3 W G a b c) (hne : G ≠ X) (i : Nat) (v : Value) : Slot3 (W.setCell ⟨X, i, none⟩ v) G a b c := h.grow (set_grow W X i v) hne
theorem Slot3.set {W : World} {G : Nat} {a b c : Value} (h : Slot3 W G a b c) (x y z : Value) : Slot3 (((W.setCell ⟨G, 0, none⟩ x).setCell ⟨G, 1, none⟩ y).setCell ⟨G, 2, none⟩ z) G x y z := by
  refine ⟨by simpa using h.lt, ?_, ?_, ?_, fun i => by simpa using h.fz i⟩
  · rw [World.cell?_setCell_other _ _ _ _ (by simp), World.cell?_setCell_other _ _ _ _ (by simp)]
    exact World.cell?_setCell_same _ _ _ h.c0
  · rw [World.cell?_setCell_other _ _ _ _ (by simp)]
    exact World.cell?_setCell_same _ _ _ ((World.cell?_setCell_other _ _ _ _ (by simp)).trans h.c1)
  · exact World.cell?_setCell_same _ _ _ ((World.cell?_setCell_other _ _ _ _ (by simp)).trans ((World.cell?_setCell_other _ _ _ _ (by simp)).trans h.c2))
theorem Slot3.cells {W : World} {G : Nat} {a b c : Value} (h : Slot3 W G a b c) : W.cell? ⟨G, 0, none⟩ = some a ∧ W.cell? ⟨G, 1, none⟩ = some b ∧ W.cell? ⟨G, 2, none⟩ = some c := ⟨h.c0, h.c1, h.c2⟩
theorem StS.set3 {B S G : Nat} {w W : World} {a b c : Value} (h : StS B S w W) (hG : G ≠ S) (hw : w.heap.size ≤ G) (hB : B ≤ w.heap.size) : StS B S w (((W.setCell ⟨G, 0, none⟩ a).setCell ⟨G, 1, none⟩ b).setCell ⟨G, 2, none⟩ c) :=
  ((h.set hG hw hB).set hG hw hB).set hG hw hB
theorem Ow.take {K : IntKind} {E D g n c k : Nat} {w : World} {xs : List Int} (h : Ow K E D w (some ⟨g, 0, none⟩) n c xs) (hk : k ≤ n) : Ow K E D w (some ⟨g, 0, none⟩) k c (xs.take k) := by
  have hl := h.len
  rcases h with ⟨h1, h2 | ⟨g', cap, cur, hv, hb, hg, e1, e2, e3, e4⟩⟩
  · cases h2.1
  · injection hv with u1 u2 u3
    refine ⟨by simp [ints]; omega, .inr ⟨g', cap, cur, by rw [u1, u3], hb, hg, by omega, e2, e3, ?_⟩⟩
    have : (ints K xs).take k = ints K (xs.take k) := by simp [ints]
    rw [← this, ← e4, List.take_take]
    congr 1
    omega
/-- The source, the slot of the result and the field's slot. -/
structure Fr (B S G F : Nat) (w W : World) (p q y : Int) : Prop where
  st : StS B S w W
  g : Slot3 W G (.int .i64 0) (.int .i64 0) (.int .i64 0)
  f : Slot3 W F (.int .i64 p) (.int .i64 q) (.int .i64 y)
theorem Fr.below {B S G F : Nat} {w W W' : World} {p q y : Int} (h : Fr B S G F w W p q y) (hb : Below W.heap.size W W') : Fr B S G F w W' p q y := ⟨h.st.below hb, h.g.keep hb, h.f.keep hb⟩
theorem Fr.drew {B S G F : Nat} {w W : World} {p q y : Int} (h : Fr B S G F w W p q y) : Fr B S G F w W.drew p q y := h.below (Below.refl _ _).drew
theorem Fr.next {B S G F : Nat} {w W W' : World} {p q y : Int} (h : Fr B S G F w W p q y) (hG : G ≠ S) (hF : F ≠ S) (hS : Src B W' S) (hg : W.grownBy W' (some S)) : Fr B S G F w W' p q y := ⟨h.st.next hS hg, h.g.grow hg hG, h.f.grow hg hF⟩
theorem Fr.cells {B S G F : Nat} {w W : World} {p q y : Int} (h : Fr B S G F w W p q y) : W.cell? ⟨F, 0, none⟩ = some (.int .i64 p) ∧ W.cell? ⟨F, 1, none⟩ = some (.int .i64 q) ∧ W.cell? ⟨F, 2, none⟩ = some (.int .i64 y) := ⟨h.f.c0, h.f.c1, h.f.c2⟩
theorem Ow.set3 {K : IntKind} {E D G n c : Nat} {W : World} {a : Option Addr} {xs : List Int} {x y z : Value} (h : Ow K E D W a n c xs) (hG : G < D) : Ow K E D (((W.setCell ⟨G, 0, none⟩ x).setCell ⟨G, 1, none⟩ y).setCell ⟨G, 2, none⟩ z) a n c xs :=
  ((h.kept (set_grow _ G 0 x) (fun g e => by injection e; omega)).kept (set_grow _ G 1 y) (fun g e => by injection e; omega)).kept (set_grow _ G 2 z) (fun g e => by injection e; omega)
/-- A field and elements drawn. -/
def DrawnR (B S : Nat) (w : World) (e : Ending) (w' : World) : Prop :=
  ∃ (p q y : Int) (a : Option Addr) (n c : Nat) (zs : List Int), e = .returned (.tuple #[.agg #[.int .i64 p, .int .i64 q, .int .i64 y], .slice a n c]) ∧ (-200000 ≤ p ∧ p ≤ 200000) ∧ (-200000 ≤ q ∧ q ≤ 200000) ∧ (-200000 ≤ y ∧ y ≤ 200000) ∧ n ≤ 1500 ∧ (∀ z ∈ zs, fits .i64 z) ∧ Ow .i64 2 w.heap.size w' a n c zs ∧ Src B w' S ∧ w.grownBy w' (some S)
set_option maxHeartbeats 4000000 in
set_option maxRecDepth 20000 in
theorem l11Draw_any (B S : Nat) (w : World) (h : Src B w S) :
    Calls Try.prog 47 #[.pointer (some ⟨S, 0, none⟩)] w (DrawnR B S w) := by
  have hB0 := (Src_le h).2.1
  have hSw := (Src_le h).2.2
  have hne : w.heap.size ≠ S := by omega
  obtain ⟨V, hV⟩ : ∃ V, w.alloc (.cells #[.int .i64 0, .int .i64 0, .int .i64 0] 36) = V := ⟨_, rfl⟩
  have hP0 := Slot3.new w (.int .i64 0) (.int .i64 0) (.int .i64 0) 36
  have hT0 := (StS.start h).below (Below.alloc (Below.refl w.heap.size w) (Nat.le_refl _) (.cells #[.int .i64 0, .int .i64 0, .int .i64 0] 36))
  rw [hV] at hP0 hT0
  clear h
  go_enter Try.func47, Try.ntmps47
  go_wp2_with fail
  clear hV
  refine (l02DrawAny_any _ S _ hT0.1).mono ?_
  rintro e w1 ⟨p, q, y, rfl, hp, hq, hy, hS1, hg1⟩
  have hP1 := hP0.grow hg1 hne
  have hT1 := hT0.next hS1 hg1
  have hneF : w1.heap.size ≠ S := by have := (Src_le hS1).2.2; omega
  obtain ⟨V1, hV1⟩ : ∃ V, w1.alloc (.cells #[.int .i64 p, .int .i64 q, .int .i64 y] 36) = V := ⟨_, rfl⟩
  have hF1 := Slot3.new w1 (.int .i64 p) (.int .i64 q) (.int .i64 y) 36
  have hal1 : Below w1.heap.size w1 (w1.alloc (.cells #[.int .i64 p, .int .i64 q, .int .i64 y] 36)) := Below.alloc (Below.refl _ _) (Nat.le_refl _) _
  have hGF : w.heap.size < w1.heap.size := hP1.lt
  replace hP1 := hP1.keep hal1
  replace hT1 := hT1.below hal1
  rw [hV1] at hF1 hP1 hT1
  clear hP0 hT0 hS1 hg1 hal1
  go_wp2_with fail
  clear hV1
  refine (l10Draw_any _ S _ hT1.1).mono ?_
  rintro e w2 ⟨s, rfl, hs, hS2, hg2⟩
  have hP2 := hP1.grow hg2 hne
  have hF2 := hF1.grow hg2 hneF
  have hT2 := hT1.next hS2 hg2
  clear hP1 hF1 hT1 hS2 hg2
  obtain ⟨s0, s1, s2, s3, s4⟩ := id hF2
  go_wp2_with fail
  refine (payloadSize_any p q y s s.size _ rfl (by omega)).mono ?_
  rintro e w3 ⟨sz, code, rfl, hsz, hb3⟩
  have hP3 := hP2.keep hb3
  have hF3 := hF2.keep hb3
  have hT3 := hT2.below hb3
  clear hP2 hF2 hT2 hb3 s0 s1 s2 s3 s4
  have hJ3 : Fr B S w.heap.size w1.heap.size w w3 p q y := ⟨hT3, hP3, hF3⟩
  obtain ⟨s0, s1, s2, s3, s4⟩ := id hF3
  have HN := Lib.hid (fun W (hJ : Fr B S w.heap.size w1.heap.size w W p q y) => l01Next_any B S 4 W hJ.st.1 (by decide))
  have HX := Lib.hid (fun W W' (hJ : Fr B S w.heap.size w1.heap.size w W p q y) hS hg => hJ.next (W' := W') hne hneF hS hg)
  have HB := Lib.hid (fun W W' (hJ : Fr B S w.heap.size w1.heap.size w W p q y) hb => hJ.below (W' := W') hb)
  have HO := Lib.hid (fun W W' a k c zs (hJ : Fr B S w.heap.size w1.heap.size w W p q y) (ho : Ow .i64 2 W.heap.size W' a k c zs) => ho.more (B' := w1.heap.size + 1) (by have := hJ.f.lt; omega))
  clear hT3 hP3 hF3
  go_wp2_with fail
  go_region_held3 (fun w' => w'.cell? ⟨w1.heap.size, 0, none⟩ = some (.int .i64 p) ∧ w'.cell? ⟨w1.heap.size, 1, none⟩ = some (.int .i64 q) ∧ w'.cell? ⟨w1.heap.size, 2, none⟩ = some (.int .i64 y)) (first | exact hJ5.cells | exact hJ4.cells | exact hJ4.drew.cells | exact hJ3.cells | exact hJ3.drew.cells | go_keep) (first
    | (go_at_call 68; (with_reducible refine (encodePayload_any p q y (sz + r) s s.size _ rfl (by omega) (by omega)).mono ?_); rintro e w5 ⟨a5, k5, c5, zs, code5, rfl, ho5, hz5, hc5, hk5, hb5⟩; have hJ5 := HB.out _ _ (by first | exact hJ4 | exact hJ4.drew) hb5; have ho6 := HO.out _ _ _ _ _ _ (by first | exact hJ4 | exact hJ4.drew) ho5; clear ho5 hb5)
    | (go_at_call 46; (with_reducible refine (HN.out _ (by first | exact hJ3 | exact hJ3.drew)).mono ?_); rintro e w4 ⟨r, rfl, ha0, ha1, hS4, hg4⟩; have hJ4 := HX.out _ _ (by first | exact hJ3 | exact hJ3.drew) hS4 hg4; have hrb : 0 ≤ r ∧ r ≤ 3 := (by omega); have ew : IntKind.i64.wrap (sz + r) = sz + r := IntWalk.i64_in _ (by omega); clear ha0 ha1 hS4 hg4))
  rename_i hHeld
  clear hHeld hJ4 hrb ew hJ3 HN HX HB HO s0 s1 s2 s3 s4
  obtain ⟨s0, s1, s2, s3, s4⟩ := id hJ5.f
  obtain ⟨g0, g1, g2, g3, g4⟩ := id hJ5.g
  by_cases hcode : code5 = 0
  · subst hcode
    obtain ⟨hf, -, hk1⟩ := hc5 rfl
    obtain ⟨gb, rfl, hgb1, hgb2⟩ := ho6.form hk1
    have h0 : ((0 : Int) != 0) = false := by simp
    clear hc5
    go_wp2_with fail
    refine (l01Next_any _ S 12 _ hJ5.st.1 (by decide)).mono ?_
    rintro e w6 ⟨r2, rfl, ha0, ha1, hS6, hg6⟩
    have hJ6 := hJ5.next hne hneF hS6 hg6
    have hgS : gb ≠ S := by omega
    have ho7 := Ow.sep (a' := some ⟨S, 0, none⟩) ho6 hg6 (fun g h1 h2 => by simp [blk] at h1 h2; omega)
    clear ho6 hg6 hS6 hJ5 hgb2 s0 s1 s2 s3 s4 g0 g1 g2 g3 g4
    obtain ⟨s0, s1, s2, s3, s4⟩ := id hJ6.f
    obtain ⟨g0, g1, g2, g3, g4⟩ := id hJ6.g
    have hFg : w1.heap.size ≠ gb := by omega
    have hGg : w.heap.size ≠ gb := by omega
    have hfb := fsize_bd hf
    have HSz := Lib.hid (fun W => l02Size_any (p := p) (q := q) (y := y) W hf)
    obtain ⟨z, hz⟩ : ∃ z, fsize p q = z := ⟨_, rfl⟩
    rw [hz] at hfb HSz
    clear hz hf
    have hJJ : Fr B S w.heap.size w1.heap.size w w6 p q y ∧ Ow .i64 2 (w1.heap.size + 1) w6 (some ⟨gb, 0, none⟩) k5 c5 zs := ⟨hJ6, ho7⟩
    have HX := Lib.hid (fun W W' (hJ : Fr B S w.heap.size w1.heap.size w W p q y ∧ Ow .i64 2 (w1.heap.size + 1) W (some ⟨gb, 0, none⟩) k5 c5 zs) hS hg => And.intro (hJ.1.next (W' := W') hne hneF hS hg) (Ow.sep (a' := some ⟨S, 0, none⟩) hJ.2 hg (fun g h1 h2 => by simp [blk] at h1 h2; omega)))
    have HB := Lib.hid (fun W W' (hJ : Fr B S w.heap.size w1.heap.size w W p q y ∧ Ow .i64 2 (w1.heap.size + 1) W (some ⟨gb, 0, none⟩) k5 c5 zs) hb => And.intro (hJ.1.below (W' := W') hb) (hJ.2.keep hb))
    have HD := Lib.hid (fun W (hJ : Fr B S w.heap.size w1.heap.size w W p q y ∧ Ow .i64 2 (w1.heap.size + 1) W (some ⟨gb, 0, none⟩) k5 c5 zs) => And.intro (hJ.1.drew) (hJ.2.keep (Below.refl _ _).drew))
    have HN := Lib.hid (fun W (n : Int) (hn : n ≤ 9223372036854775807 ∧ -9223372036854775808 ≤ n) (hJ : Fr B S w.heap.size w1.heap.size w W p q y ∧ Ow .i64 2 (w1.heap.size + 1) W (some ⟨gb, 0, none⟩) k5 c5 zs) => l01Next_any B S n W hJ.1.st.1 hn)
    by_cases hq0 : r2 = 0
    · subst hq0
      clear ha0 ha1 hJ6 ho7
      go_wp2_with fail
      go_region_held3 (fun w' => w'.cell? ⟨w1.heap.size, 0, none⟩ = some (.int .i64 p) ∧ w'.cell? ⟨w1.heap.size, 1, none⟩ = some (.int .i64 q) ∧ w'.cell? ⟨w1.heap.size, 2, none⟩ = some (.int .i64 y)) (first | exact hJ9.1.cells | exact (hJ9.1.f.oth hFg _ _).cells | exact hJ8.1.cells | exact hJ8.1.drew.cells | exact hJ7.1.cells | exact hJ7.1.drew.cells | exact hJJ.1.cells | exact hJJ.1.drew.cells | go_keep) (first
        | (go_at_call_of 46 (Value.int IntKind.i64 z); (with_reducible refine (HN.out _ z (by omega) (by first | exact hJ8 | exact HD.out _ hJ8)).mono ?_); rintro e w9 ⟨v, rfl, hv0, hv1, hS9, hg9⟩; have hJ9 := HX.out _ _ (by first | exact hJ8 | exact HD.out _ hJ8) hS9 hg9; have hvb : 0 ≤ v ∧ v ≤ 1021 := (by omega); have hcell := hJ9.2.cell hx; have hfz := hJ9.2.free k; clear hv0 hv1 hS9 hg9)
        | (go_at_call 52; (with_reducible refine (HSz.out _).mono ?_); rintro e w8 ⟨rfl, hb8⟩; have hJ8 := HB.out _ _ (by first | exact hJ7 | exact HD.out _ hJ7) hb8; clear hb8)
        | (go_at_call_of 46 (Value.int IntKind.i64 (k5 : Int)); (with_reducible refine (HN.out _ (k5 : Int) (by omega) (by first | exact hJJ | exact HD.out _ hJJ)).mono ?_); rintro e w7 ⟨r3, rfl, ha0, ha1, hS7, hg7⟩; obtain ⟨k, rfl⟩ := Int.eq_ofNat_of_zero_le ha0; have hJ7 := HX.out _ _ (by first | exact hJJ | exact HD.out _ hJJ) hS7 hg7; have hk : k < k5 := (by omega); obtain ⟨x, hx⟩ : ∃ x, zs[k]? = some x := ⟨_, List.getElem?_eq_getElem (by have := hJ7.2.len; omega)⟩; have b0 : (0 : Int) ≤ (k : Int) := (by omega); have b1 : (k : Int) < (k5 : Int) := (by omega); clear ha0 ha1 hS7 hg7))
      rename_i hHeld
      clear hHeld
      have hJ10 : Fr B S w.heap.size w1.heap.size w (w9.setCell ⟨gb, k, none⟩ (.int .i64 v)) p q y := ⟨hJ9.1.st.set hgS (by omega) hB0, hJ9.1.g.oth hGg _ _, hJ9.1.f.oth hFg _ _⟩
      have ho10 := hJ9.2.set_ k v
      have hz10 : ∀ z ∈ zs.set k v, fits .i64 z := fun z hz => by
        rcases List.mem_or_eq_of_mem_set hz with h1 | h1
        · exact hz5 z h1
        · subst h1; show -9223372036854775808 ≤ z ∧ z ≤ 9223372036854775807; omega
      obtain ⟨W, hW⟩ : ∃ W, w9.setCell ⟨gb, k, none⟩ (.int .i64 v) = W := ⟨_, rfl⟩
      rw [hW] at hJ10 ho10 ⊢
      clear hJ9 hJ8 hJ7 hJJ hcell hfz hW HX HB HD HN HSz hx s0 s1 s2 s3 s4 g0 g1 g2 g3 g4
      obtain ⟨s0, s1, s2, s3, s4⟩ := id hJ10.f
      obtain ⟨g0, g1, g2, g3, g4⟩ := id hJ10.g
      go_wp2_with fail
      obtain ⟨z0, z1, z2, z3, z4⟩ := hJ10.g.set (.int .i64 p) (.int .i64 q) (.int .i64 y)
      have hTz := StS.set3 (a := .int .i64 p) (b := .int .i64 q) (c := .int .i64 y) hJ10.st hne (Nat.le_refl _) hB0
      have hoz := Ow.set3 (G := w.heap.size) (x := .int .i64 p) (y := .int .i64 q) (z := .int .i64 y) ho10 (by omega)
      exact bodyPost_ret (v := .tuple #[.agg #[.int .i64 p, .int .i64 q, .int .i64 y], .slice (some ⟨gb, 0, none⟩) k5 c5]) (by simp [results, Try.results47, go_sem, z1, z2, z3]) rfl ⟨p, q, y, _, _, _, _, rfl, hp, hq, hy, hk5, hz10, hoz.more (by omega), hTz.1, hTz.2⟩
    · by_cases hq1 : r2 = 1
      · subst hq1
        clear ha0 ha1 hq0 hJ6 ho7
        have e1 : IntKind.i64.wrap (z - 1) = z - 1 := IntWalk.i64_in _ (by omega)
        have hl0 : (0 : Int) < (k5 : Int) := by omega
        have hl1 : 0 < k5 := by omega
        have hl2 : ¬ k5 = 0 := by omega
        have HK := Lib.hid (fun (k : Nat) (hk : k < 3) => show ∃ x : Int, (-1000 ≤ x ∧ x ≤ 2000) ∧ (∀ W : World, (W.alloc (.cells #[.int .i64 (-1), .int .i64 z, .int .i64 (z - 1)] 2)).cell? ⟨W.heap.size, k, none⟩ = some (.int .i64 x)) from
          match k, hk with
          | 0, _ => ⟨-1, by omega, fun W => cell_new W _ _ 0⟩
          | 1, _ => ⟨z, by omega, fun W => cell_new W _ _ 1⟩
          | 2, _ => ⟨z - 1, by omega, fun W => cell_new W _ _ 2⟩)
        have HL := Lib.hid (fun W (hJ : Fr B S w.heap.size w1.heap.size w W p q y ∧ Ow .i64 2 (w1.heap.size + 1) W (some ⟨gb, 0, none⟩) k5 c5 zs) => HB.out W _ hJ (Below.alloc (Below.refl _ _) (Nat.le_refl _) (.cells #[.int .i64 (-1), .int .i64 z, .int .i64 (z - 1)] 2)))
        obtain ⟨x0, hx0⟩ : ∃ x, zs[0]? = some x := ⟨_, List.getElem?_eq_getElem (by have := hJJ.2.len; omega)⟩
        go_wp2_with fail
        go_region_with (first
          | (go_at_call 46; (with_reducible refine (HN.out _ 3 (by omega) (by repeat (first | exact hJ8 | refine HD.out _ ?_ | refine HL.out _ ?_))).mono ?_); rintro e w9 ⟨r3, rfl, hv0, hv1, hS9, hg9⟩; have hJ9 := HX.out _ _ (by repeat (first | exact hJ8 | refine HD.out _ ?_ | refine HL.out _ ?_)) hS9 hg9; obtain ⟨k, rfl⟩ := Int.eq_ofNat_of_zero_le hv0; have hk : k < 3 := (by omega); obtain ⟨x, hxb, hcn⟩ := HK.out k hk; have hw8S : w8.heap.size ≠ S := (by have := (Src_le hJ8.1.st.1).2.2; omega); (try (have hcl := lit_cellB (k := k) hw8S hg9 (by simp) (by first | exact hcn w8 | exact hcn w8.drew))); have b0 : (0 : Int) ≤ (k : Int) := (by omega); have b1 : (k : Int) < 3 := (by omega); have hcell := hJ9.2.cell hx0; have hfz := hJ9.2.free 0; have hcA := (fun o : Obj => (hJ9.2.alloc o).cell hx0); have hfA := (fun o : Obj => (hJ9.2.alloc o).free 0); clear hv0 hv1 hS9 hg9)
          | (have hJ7' := hJ7; clear hJ7'; go_at_call 52; (with_reducible refine (HSz.out _).mono ?_); rintro e w8 ⟨rfl, hb8⟩; have hJ8 := HB.out _ _ (by repeat (first | exact hJ7 | refine HD.out _ ?_)) hb8; clear hb8)
          | (go_at_call 52; (with_reducible refine (HSz.out _).mono ?_); rintro e w7 ⟨rfl, hb7⟩; have hJ7 := HB.out _ _ (by repeat (first | exact hJJ | refine HD.out _ ?_)) hb7; obtain ⟨c0, c1, c2⟩ := hJ7.1.cells; clear hb7))
        all_goals (first
          | (have hJw : Fr B S w.heap.size w1.heap.size w w9 p q y ∧ Ow .i64 2 (w1.heap.size + 1) w9 (some ⟨gb, 0, none⟩) k5 c5 zs := hJ9
             have hJ10 : Fr B S w.heap.size w1.heap.size w (World.setCell w9 ⟨gb, 0, none⟩ (.int .i64 x)) p q y := ⟨hJw.1.st.set hgS (by omega) hB0, hJw.1.g.oth hGg _ _, hJw.1.f.oth hFg _ _⟩
             have ho10 := hJw.2.set_ 0 x
             obtain ⟨W, hW⟩ : ∃ W, World.setCell w9 ⟨gb, 0, none⟩ (.int .i64 x) = W := ⟨_, rfl⟩
             rw [hW] at hJ10 ho10 ⊢
             clear hJw hW hcell hfz hcA hfA hJ9 hJ8 hJ7 hJJ HX HB HD HN HSz HL hx0 hcn
             (try clear hcl)
             clear s0 s1 s2 s3 s4 g0 g1 g2 g3 g4 c0 c1 c2
             obtain ⟨s0, s1, s2, s3, s4⟩ := id hJ10.f
             obtain ⟨g0, g1, g2, g3, g4⟩ := id hJ10.g
             have hz10 : ∀ z ∈ zs.set 0 x, fits .i64 z := fun z hz => by
               rcases List.mem_or_eq_of_mem_set hz with h1 | h1
               · exact hz5 z h1
               · subst h1; show -9223372036854775808 ≤ z ∧ z ≤ 9223372036854775807; omega
             go_wp2_with fail
             obtain ⟨z0, z1, z2, z3, z4⟩ := hJ10.g.set (.int .i64 p) (.int .i64 q) (.int .i64 y)
             have hTz := StS.set3 (a := .int .i64 p) (b := .int .i64 q) (c := .int .i64 y) hJ10.st hne (Nat.le_refl _) hB0
             have hoz := Ow.set3 (G := w.heap.size) (x := .int .i64 p) (y := .int .i64 q) (z := .int .i64 y) ho10 (by omega)
             exact bodyPost_ret (v := .tuple #[.agg #[.int .i64 p, .int .i64 q, .int .i64 y], .slice (some ⟨gb, 0, none⟩) k5 c5]) (by simp [results, Try.results47, go_sem, z1, z2, z3]) rfl ⟨p, q, y, _, _, _, _, rfl, hp, hq, hy, hk5, hz10, hoz.more (by omega), hTz.1, hTz.2⟩)
          | (have hJw : Fr B S w.heap.size w1.heap.size w (w9.alloc (.cells #[.int .i64 (-1), .int .i64 z, .int .i64 (z - 1)] 2)) p q y ∧ Ow .i64 2 (w1.heap.size + 1) (w9.alloc (.cells #[.int .i64 (-1), .int .i64 z, .int .i64 (z - 1)] 2)) (some ⟨gb, 0, none⟩) k5 c5 zs := HL.out w9 hJ9
             have hJ10 : Fr B S w.heap.size w1.heap.size w (World.setCell (w9.alloc (.cells #[.int .i64 (-1), .int .i64 z, .int .i64 (z - 1)] 2)) ⟨gb, 0, none⟩ (.int .i64 x)) p q y := ⟨hJw.1.st.set hgS (by omega) hB0, hJw.1.g.oth hGg _ _, hJw.1.f.oth hFg _ _⟩
             have ho10 := hJw.2.set_ 0 x
             obtain ⟨W, hW⟩ : ∃ W, World.setCell (w9.alloc (.cells #[.int .i64 (-1), .int .i64 z, .int .i64 (z - 1)] 2)) ⟨gb, 0, none⟩ (.int .i64 x) = W := ⟨_, rfl⟩
             rw [hW] at hJ10 ho10 ⊢
             clear hJw hW hcell hfz hcA hfA hJ9 hJ8 hJ7 hJJ HX HB HD HN HSz HL hx0 hcn
             (try clear hcl)
             clear s0 s1 s2 s3 s4 g0 g1 g2 g3 g4 c0 c1 c2
             obtain ⟨s0, s1, s2, s3, s4⟩ := id hJ10.f
             obtain ⟨g0, g1, g2, g3, g4⟩ := id hJ10.g
             have hz10 : ∀ z ∈ zs.set 0 x, fits .i64 z := fun z hz => by
               rcases List.mem_or_eq_of_mem_set hz with h1 | h1
               · exact hz5 z h1
               · subst h1; show -9223372036854775808 ≤ z ∧ z ≤ 9223372036854775807; omega
             go_wp2_with fail
             obtain ⟨z0, z1, z2, z3, z4⟩ := hJ10.g.set (.int .i64 p) (.int .i64 q) (.int .i64 y)
             have hTz := StS.set3 (a := .int .i64 p) (b := .int .i64 q) (c := .int .i64 y) hJ10.st hne (Nat.le_refl _) hB0
             have hoz := Ow.set3 (G := w.heap.size) (x := .int .i64 p) (y := .int .i64 q) (z := .int .i64 y) ho10 (by omega)
             exact bodyPost_ret (v := .tuple #[.agg #[.int .i64 p, .int .i64 q, .int .i64 y], .slice (some ⟨gb, 0, none⟩) k5 c5]) (by simp [results, Try.results47, go_sem, z1, z2, z3]) rfl ⟨p, q, y, _, _, _, _, rfl, hp, hq, hy, hk5, hz10, hoz.more (by omega), hTz.1, hTz.2⟩))
      · by_cases hq2 : r2 = 2
        · subst hq2
          clear ha0 ha1 hq0 hq1
          go_wp2_with fail
          refine (l01Next_any _ S (k5 : Int) _ hJ6.st.1 (by omega)).mono ?_
          rintro e w8 ⟨r3, rfl, ha0, ha1, hS8, hg8⟩
          obtain ⟨k, rfl⟩ := Int.eq_ofNat_of_zero_le ha0
          have hk : k ≤ k5 := by omega
          have hJ8 := hJ6.next hne hneF hS8 hg8
          have ho8 := Ow.take (Ow.sep (a' := some ⟨S, 0, none⟩) ho7 hg8 (fun g h1 h2 => by simp [blk] at h1 h2; omega)) hk
          have hcp := ho7.cap
          clear ho7 hg8 hS8 hJ6 s0 s1 s2 s3 s4 g0 g1 g2 g3 g4 ha0 ha1
          obtain ⟨s0, s1, s2, s3, s4⟩ := id hJ8.f
          obtain ⟨g0, g1, g2, g3, g4⟩ := id hJ8.g
          have b0 : (0 : Int) ≤ (k : Int) := by omega
          have b1 : (k : Int) ≤ (c5 : Int) := by omega
          go_wp2_with fail
          obtain ⟨z0, z1, z2, z3, z4⟩ := hJ8.g.set (.int .i64 p) (.int .i64 q) (.int .i64 y)
          have hTz := StS.set3 (a := .int .i64 p) (b := .int .i64 q) (c := .int .i64 y) hJ8.st hne (Nat.le_refl _) hB0
          have hoz := Ow.set3 (G := w.heap.size) (x := .int .i64 p) (y := .int .i64 q) (z := .int .i64 y) ho8 (by omega)
          exact bodyPost_ret (v := .tuple #[.agg #[.int .i64 p, .int .i64 q, .int .i64 y], .slice (some ⟨gb, 0, none⟩) k c5]) (by simp [results, Try.results47, go_sem, z1, z2, z3]) rfl ⟨p, q, y, _, _, _, zs.take k, rfl, hp, hq, hy, by omega, (fun z hz => hz5 z (List.mem_of_mem_take hz)), hoz.more (by omega), hTz.1, hTz.2⟩
        · have i0 : (r2 == 0) = false := by rw [beq_eq_false_iff_ne]; exact hq0
          have i1 : (r2 == 1) = false := by rw [beq_eq_false_iff_ne]; exact hq1
          have i2 : (r2 == 2) = false := by rw [beq_eq_false_iff_ne]; exact hq2
          clear hq0 hq1 hq2
          go_wp2_with fail
          obtain ⟨z0, z1, z2, z3, z4⟩ := hJ6.g.set (.int .i64 p) (.int .i64 q) (.int .i64 y)
          have hTz := StS.set3 (a := .int .i64 p) (b := .int .i64 q) (c := .int .i64 y) hJ6.st hne (Nat.le_refl _) hB0
          have hoz := Ow.set3 (G := w.heap.size) (x := .int .i64 p) (y := .int .i64 q) (z := .int .i64 y) ho7 (by omega)
          exact bodyPost_ret (v := .tuple #[.agg #[.int .i64 p, .int .i64 q, .int .i64 y], .slice (some ⟨gb, 0, none⟩) k5 c5]) (by simp [results, Try.results47, go_sem, z1, z2, z3]) rfl ⟨p, q, y, _, _, _, zs, rfl, hp, hq, hy, hk5, hz5, hoz.more (by omega), hTz.1, hTz.2⟩
  · have h0 : (code5 != 0) = true := by simpa using hcode
    clear hcode hc5
    go_wp2_with fail
    have hZ := hJ5.g.set (.int .i64 p) (.int .i64 q) (.int .i64 y)
    have hTz := StS.set3 (a := .int .i64 p) (b := .int .i64 q) (c := .int .i64 y) hJ5.st hne (Nat.le_refl _) hB0
    have hws : (((w5.setCell ⟨w.heap.size, 0, none⟩ (.int .i64 p)).setCell ⟨w.heap.size, 1, none⟩ (.int .i64 q)).setCell ⟨w.heap.size, 2, none⟩ (.int .i64 y)).heap.size = w5.heap.size := by simp
    have hoz := Ow.lit (K := .i64) (E := 2) (xs := [1, 2, 3]) (B := w.heap.size) (((w5.setCell ⟨w.heap.size, 0, none⟩ (.int .i64 p)).setCell ⟨w.heap.size, 1, none⟩ (.int .i64 q)).setCell ⟨w.heap.size, 2, none⟩ (.int .i64 y)) (by rw [hws]; omega) (by decide)
    rw [hws] at hoz
    have hal := Below.alloc (Below.refl _ (((w5.setCell ⟨w.heap.size, 0, none⟩ (.int .i64 p)).setCell ⟨w.heap.size, 1, none⟩ (.int .i64 q)).setCell ⟨w.heap.size, 2, none⟩ (.int .i64 y))) (Nat.le_refl _) (.cells #[.int .i64 1, .int .i64 2, .int .i64 3] 2)
    replace hTz := hTz.below hal
    obtain ⟨z0, z1, z2, z3, z4⟩ := hZ.keep hal
    exact bodyPost_ret (v := .tuple #[.agg #[.int .i64 p, .int .i64 q, .int .i64 y], .slice (some ⟨w5.heap.size, 0, none⟩) 3 3]) (by simp [results, Try.results47, go_sem, z1, z2, z3]) rfl ⟨p, q, y, _, _, _, [1, 2, 3], rfl, hp, hq, hy, by omega, (fun z hz => by simp at hz; show -9223372036854775808 ≤ z ∧ z ≤ 9223372036854775807; omega), hoz, hTz.1, hTz.2⟩
end Go.Proofs.Ytnajjofaijpciaa
