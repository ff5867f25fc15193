/-
  Texts of the proof, one behind the other: each bears its own heading.
  Conditions: as the headings say.
-/
import Derived.Test.YtnajjofaijpciaaDrawG
import Derived.Test.YtnajjofaijpciaaMg33
import Derived.Test.YtnajjofaijpciaaDecPart
import Derived.Test.YtnajjofaijpciaaMg31
import Derived.Test.YtnajjofaijpciaaSegR
import Derived.Test.YtnajjofaijpciaaMg16
/-
  Plain facts about a slot of three cells (a field) beside a source.
  Conditions: none.
-/
set_option linter.unusedVariables false
namespace Go.Proofs.Ytnajjofaijpciaa
open Go.RowKit Go.G8
theorem start_slot (w : World) (T : TypeId) : Below w.heap.size w (w.alloc (.cells #[.int .i64 0, .int .i64 0, .int .i64 0] T)) ∧ ∃ V, V = w.alloc (.cells #[.int .i64 0, .int .i64 0, .int .i64 0] T) ∧ w.heap.size < V.heap.size ∧ V.cell? ⟨w.heap.size, 0, none⟩ = some (.int .i64 0) ∧ V.cell? ⟨w.heap.size, 1, none⟩ = some (.int .i64 0) ∧ V.cell? ⟨w.heap.size, 2, none⟩ = some (.int .i64 0) ∧ ∀ i, V.frozen? ⟨w.heap.size, i, none⟩ = false := by
  obtain ⟨s1, s2, s3, s4, s5, s6⟩ := start_fld w T
  exact ⟨s1, _, rfl, s2, s3, s4, s5, s6⟩
theorem slot_on {w W W' : World} {u0 u1 u2 : Value} (hb : Below W.heap.size W W') (hB : Below w.heap.size w W) (hlt : w.heap.size < W.heap.size) (c0 : W.cell? ⟨w.heap.size, 0, none⟩ = some u0) (c1 : W.cell? ⟨w.heap.size, 1, none⟩ = some u1) (c2 : W.cell? ⟨w.heap.size, 2, none⟩ = some u2) (hz : ∀ i, W.frozen? ⟨w.heap.size, i, none⟩ = false) :
    Below w.heap.size w W' ∧ w.heap.size < W'.heap.size ∧ W'.cell? ⟨w.heap.size, 0, none⟩ = some u0 ∧ W'.cell? ⟨w.heap.size, 1, none⟩ = some u1 ∧ W'.cell? ⟨w.heap.size, 2, none⟩ = some u2 ∧ ∀ i, W'.frozen? ⟨w.heap.size, i, none⟩ = false := by
  obtain ⟨hcc, hff⟩ := bcell hb
  exact ⟨bt hB hb, Nat.lt_of_lt_of_le hlt hb.size, (hcc _ 0 hlt).trans c0, (hcc _ 1 hlt).trans c1, (hcc _ 2 hlt).trans c2, fun i => (hff _ i hlt).trans (hz i)⟩
theorem slot_src {S : Nat} {w W W' : World} {u0 u1 u2 : Value} (hg : W.grownBy W' (some S)) (hS : w.heap.size < S) (hB : Below w.heap.size w W) (hlt : w.heap.size < W.heap.size) (c0 : W.cell? ⟨w.heap.size, 0, none⟩ = some u0) (c1 : W.cell? ⟨w.heap.size, 1, none⟩ = some u1) (c2 : W.cell? ⟨w.heap.size, 2, none⟩ = some u2) (hz : ∀ i, W.frozen? ⟨w.heap.size, i, none⟩ = false) :
    Below w.heap.size w W' ∧ w.heap.size < W'.heap.size ∧ W'.cell? ⟨w.heap.size, 0, none⟩ = some u0 ∧ W'.cell? ⟨w.heap.size, 1, none⟩ = some u1 ∧ W'.cell? ⟨w.heap.size, 2, none⟩ = some u2 ∧ ∀ i, W'.frozen? ⟨w.heap.size, i, none⟩ = false := by
  have hne : w.heap.size ≠ S := by omega
  exact ⟨hB.grown hg (Nat.le_of_lt hlt) (fun k e => by injection e with e; omega), Nat.lt_of_lt_of_le hlt hg.size, (gcell hg hlt hne 0).1.trans c0, (gcell hg hlt hne 1).1.trans c1, (gcell hg hlt hne 2).1.trans c2, fun i => (gcell hg hlt hne i).2.trans (hz i)⟩
theorem slot_end {w W : World} (x y z : Int) {u0 u1 u2 : Value} (hB : Below w.heap.size w W) (hlt : w.heap.size < W.heap.size) (c0 : W.cell? ⟨w.heap.size, 0, none⟩ = some u0) (c1 : W.cell? ⟨w.heap.size, 1, none⟩ = some u1) (c2 : W.cell? ⟨w.heap.size, 2, none⟩ = some u2) :
    (((W.setCell ⟨w.heap.size, 0, none⟩ (.int .i64 x)).setCell ⟨w.heap.size, 1, none⟩ (.int .i64 y)).setCell ⟨w.heap.size, 2, none⟩ (.int .i64 z)).cell? ⟨w.heap.size, 0, none⟩ = some (.int .i64 x) ∧
    (((W.setCell ⟨w.heap.size, 0, none⟩ (.int .i64 x)).setCell ⟨w.heap.size, 1, none⟩ (.int .i64 y)).setCell ⟨w.heap.size, 2, none⟩ (.int .i64 z)).cell? ⟨w.heap.size, 1, none⟩ = some (.int .i64 y) ∧
    (((W.setCell ⟨w.heap.size, 0, none⟩ (.int .i64 x)).setCell ⟨w.heap.size, 1, none⟩ (.int .i64 y)).setCell ⟨w.heap.size, 2, none⟩ (.int .i64 z)).cell? ⟨w.heap.size, 2, none⟩ = some (.int .i64 z) ∧
    Below w.heap.size w (((W.setCell ⟨w.heap.size, 0, none⟩ (.int .i64 x)).setCell ⟨w.heap.size, 1, none⟩ (.int .i64 y)).setCell ⟨w.heap.size, 2, none⟩ (.int .i64 z)) := by
  obtain ⟨e0, e1, e2, hg⟩ := set3c W w.heap.size x y z c0 c1 c2
  exact ⟨e0, e1, e2, hB.grown hg (Nat.le_of_lt hlt) (fun k e => by injection e with e; omega)⟩
theorem set3_other (W : World) {b b' : Nat} (j : Nat) (x y z : Value) (hne : b ≠ b') : (((W.setCell ⟨b, 0, none⟩ x).setCell ⟨b, 1, none⟩ y).setCell ⟨b, 2, none⟩ z).cell? ⟨b', j, none⟩ = W.cell? ⟨b', j, none⟩ := by
  rw [World.cell?_setCell_other _ _ _ _ (by intro e; injection e; omega), World.cell?_setCell_other _ _ _ _ (by intro e; injection e; omega), World.cell?_setCell_other _ _ _ _ (by intro e; injection e; omega)]
end Go.Proofs.Ytnajjofaijpciaa
/-
  Contract: the part that the reference draws (small numbers, a text of at most 401 bytes).
  Conditions: codes of at most 4096 bytes.
-/
set_option linter.unusedVariables false
namespace Go.Proofs.Ytnajjofaijpciaa
open Go.RowKit Go.G8
/-- A source kept, and the world beside it. -/
def StS (B S : Nat) (w W : World) : Prop := Src B W S ∧ w.grownBy W (some S)
theorem StS.start {B S : Nat} {w : World} (h : Src B w S) : StS B S w w := ⟨h, keeps_refl w S⟩
theorem StS.next {B S : Nat} {w W W' : World} (h : StS B S w W) (hS : Src B W' S) (hg : W.grownBy W' (some S)) : StS B S w W' := ⟨hS, keeps_trans h.2 hg⟩
theorem StS.below {B S : Nat} {w W W' : World} (h : StS B S w W) (hb : Below W.heap.size W W') : StS B S w W' := ⟨src_keep h.1 hb, keeps_trans h.2 (keeps_below hb)⟩
theorem StS.set {B S G i : Nat} {w W : World} {v : Value} (h : StS B S w W) (hG : G ≠ S) (hw : w.heap.size ≤ G) (hB : B ≤ w.heap.size) : StS B S w (W.setCell ⟨G, i, none⟩ v) := by
  have hg : W.grownBy (W.setCell ⟨G, i, none⟩ v) (some G) := ⟨rfl, rfl, rfl, by simp, fun q hq hne => Below.heap_setCell W _ _ q (fun e => hne (by rw [e]))⟩
  exact ⟨src_sep h.1 hg hG (by omega), keeps_new h.2 hg hw⟩
theorem StS.set4 {B S G : Nat} {w W : World} {a b c d : Value} (h : StS B S w W) (hG : G ≠ S) (hw : w.heap.size ≤ G) (hB : B ≤ w.heap.size) : StS B S w ((((W.setCell ⟨G, 0, none⟩ a).setCell ⟨G, 1, none⟩ b).setCell ⟨G, 2, none⟩ c).setCell ⟨G, 3, none⟩ d) :=
  (((h.set hG hw hB).set hG hw hB).set hG hw hB).set hG hw hB
theorem Slot4.grow {W W' : World} {G S : Nat} {a b c d : Value} (h : Slot4 W G a b c d) (hg : W.grownBy W' (some S)) (hne : G ≠ S) : Slot4 W' G a b c d :=
  ⟨Nat.lt_of_lt_of_le h.lt hg.size, (gcell hg h.lt hne 0).1.trans h.c0, (gcell hg h.lt hne 1).1.trans h.c1, (gcell hg h.lt hne 2).1.trans h.c2, (gcell hg h.lt hne 3).1.trans h.c3, fun i => (gcell hg h.lt hne i).2.trans (h.fz i)⟩
theorem Slot4.set0 {W : World} {G : Nat} {a b c d : Value} (h : Slot4 W G a b c d) (v : Value) : Slot4 (W.setCell ⟨G, 0, none⟩ v) G v b c d := by
  refine ⟨by simpa using h.lt, World.cell?_setCell_same _ _ _ h.c0, ?_, ?_, ?_, fun i => by simpa using h.fz i⟩
  · rw [World.cell?_setCell_other _ _ _ _ (by simp)]; exact h.c1
  · rw [World.cell?_setCell_other _ _ _ _ (by simp)]; exact h.c2
  · rw [World.cell?_setCell_other _ _ _ _ (by simp)]; exact h.c3
theorem Slot4.set1 {W : World} {G : Nat} {a b c d : Value} (h : Slot4 W G a b c d) (v : Value) : Slot4 (W.setCell ⟨G, 1, none⟩ v) G a v c d := by
  refine ⟨by simpa using h.lt, ?_, World.cell?_setCell_same _ _ _ h.c1, ?_, ?_, fun i => by simpa using h.fz i⟩
  · rw [World.cell?_setCell_other _ _ _ _ (by simp)]; exact h.c0
  · rw [World.cell?_setCell_other _ _ _ _ (by simp)]; exact h.c2
  · rw [World.cell?_setCell_other _ _ _ _ (by simp)]; exact h.c3
theorem Slot4.set2 {W : World} {G : Nat} {a b c d : Value} (h : Slot4 W G a b c d) (v : Value) : Slot4 (W.setCell ⟨G, 2, none⟩ v) G a b v d := by
  refine ⟨by simpa using h.lt, ?_, ?_, World.cell?_setCell_same _ _ _ h.c2, ?_, fun i => by simpa using h.fz i⟩
  · rw [World.cell?_setCell_other _ _ _ _ (by simp)]; exact h.c0
  · rw [World.cell?_setCell_other _ _ _ _ (by simp)]; exact h.c1
  · rw [World.cell?_setCell_other _ _ _ _ (by simp)]; exact h.c3
theorem lit_cellB {W W' : World} {S b k : Nat} {v : Value} (hne : b ≠ S) (hg : W.grownBy W' (some S)) (hlt : b < W.heap.size) (hc : W.cell? ⟨b, k, none⟩ = some v) : W'.cell? ⟨b, k, none⟩ = some v := (gcell hg hlt hne k).1.trans hc
theorem lit_cell {W W' : World} {S : Nat} {xs : List Int} {T : TypeId} (hne : W.heap.size ≠ S) (hg : (W.alloc (.cells (ints .i64 xs).toArray T)).grownBy W' (some S)) {k : Nat} {x : Int} (hx : xs[k]? = some x) : W'.cell? ⟨W.heap.size, k, none⟩ = some (.int .i64 x) :=
  (gcell hg (by simp) hne k).1.trans ((cell_new _ _ _ _).trans (by simp [ints, hx]))
/-- A part drawn. -/
def DrawnP (B S : Nat) (w : World) (e : Ending) (w' : World) : Prop :=
  ∃ (ix ct pr : Int) (s : ByteArray), e = .returned (.agg #[.int .i64 ix, .int .i64 ct, .int .i64 pr, .string s]) ∧ (-1000 ≤ ix ∧ ix ≤ 1000) ∧ (-1000 ≤ ct ∧ ct ≤ 1000) ∧ (-1000 ≤ pr ∧ pr ≤ 1000) ∧ s.size ≤ 401 ∧ Src B w' S ∧ w.grownBy w' (some S)
set_option maxHeartbeats 2000000 in
set_option maxRecDepth 20000 in
theorem l12Draw_any (B S : Nat) (w : World) (h : Src B w S) :
    Calls Try.prog 49 #[.pointer (some ⟨S, 0, none⟩)] w (DrawnP B S w) := by
  have hB0 := (Src_le h).2.1
  have hSw := (Src_le h).2.2
  have hne : w.heap.size ≠ S := by omega
  obtain ⟨V, hV⟩ : ∃ V, w.alloc (.cells #[.int .i64 0, .int .i64 0, .int .i64 0, .string ⟨#[]⟩] 45) = V := ⟨_, rfl⟩
  have hP0 := Slot4.new w (.int .i64 0) (.int .i64 0) (.int .i64 0) (.string ⟨#[]⟩) 45
  have hT0 := (StS.start h).below (Below.alloc (Below.refl w.heap.size w) (Nat.le_refl _) (.cells #[.int .i64 0, .int .i64 0, .int .i64 0, .string ⟨#[]⟩] 45))
  rw [hV] at hP0 hT0
  clear h
  go_enter Try.func49, Try.ntmps49
  go_wp2_with fail
  clear hV
  refine (l01Next_any _ S 8 _ hT0.1 (by decide)).mono ?_
  rintro e w1 ⟨r1, rfl, ha0, ha1, hS1, hg1⟩
  have hP1 := hP0.grow hg1 hne
  have hT1 := hT0.next hS1 hg1
  have hr1 : 0 ≤ r1 ∧ r1 ≤ 7 := by omega
  have e1 : IntKind.i64.wrap (1 + r1) = 1 + r1 := IntWalk.i64_in _ (by omega)
  clear hP0 hT0 hS1 hg1 ha0 ha1
  go_wp2_with fail
  refine (l01Next_any _ S 256 _ hT1.1 (by decide)).mono ?_
  rintro e w2 ⟨r2, rfl, ha0, ha1, hS2, hg2⟩
  have hP2 := hP1.grow hg2 hne
  have hT2 := hT1.next hS2 hg2
  have hr2 : 0 ≤ r2 ∧ r2 ≤ 255 := by omega
  clear hP1 hT1 hS2 hg2 ha0 ha1
  go_wp2_with fail
  refine (l10Draw_any _ S _ hT2.1).mono ?_
  rintro e w3 ⟨s, rfl, hs, hS3, hg3⟩
  have hP3 := hP2.grow hg3 hne
  have hT3 := hT2.next hS3 hg3
  clear hP2 hT2 hS3 hg3
  obtain ⟨s0, s1, s2, s3, s4, s5⟩ := id hP3
  go_wp2_with fail
  have hSw3 := (Src_le hT3.1).2.2
  have hneX : w3.heap.size ≠ S := by omega
  obtain ⟨V, hV⟩ : ∃ V, w3.alloc (.cells #[.int .i64 0, .int .i64 (1 + r1), .int .i64 r2, .string s] 45) = V := ⟨_, rfl⟩
  have hX4 := Slot4.new w3 (.int .i64 0) (.int .i64 (1 + r1)) (.int .i64 r2) (.string s) 45
  have hal4 : Below w3.heap.size w3 (w3.alloc (.cells #[.int .i64 0, .int .i64 (1 + r1), .int .i64 r2, .string s] 45)) := Below.alloc (Below.refl _ _) (Nat.le_refl _) _
  have hT4 := hT3.below hal4
  have hP4 := hP3.keep hal4
  rw [hV] at hX4 hT4 hP4
  have hGX : w.heap.size < w3.heap.size := hP3.lt
  clear s1 s2 s3 s4 s5 hP3 hT3 hal4
  rw [hV]
  clear hV
  refine (l01Next_any _ S (1 + r1) _ hT4.1 (by omega)).mono ?_
  rintro e w4 ⟨r3, rfl, ha0, ha1, hS4, hg4⟩
  have hT4 := hT4.next hS4 hg4
  have hP4 := hP4.grow hg4 hne
  have hX4 := hX4.grow hg4 hneX
  have hr3 : 0 ≤ r3 ∧ r3 ≤ 7 := by omega
  clear s0 hS4 hg4 ha0 ha1
  obtain ⟨s0, s1, s2, s3, s4, s5⟩ := id hX4
  go_wp2_with fail
  refine (l01Next_any _ S 30 _ (hT4.set hneX (by omega) hB0).1 (by decide)).mono ?_
  rintro e w5 ⟨r, rfl, ha0, ha1, hS5, hg5⟩
  have hT5 := (hT4.set hneX (by omega) hB0).next hS5 hg5
  have hP5 := (hP4.oth (by omega : w.heap.size ≠ w3.heap.size) _ _).grow hg5 hne
  have hX5 := (hX4.set0 _).grow hg5 hneX
  clear s0 s1 s2 s3 s4 s5 hP4 hX4 hT4 hS5 hg5 ha0 ha1
  obtain ⟨s0, s1, s2, s3, s4, s5⟩ := id hX5
  by_cases hq0 : r = 0
  · have hq := hq0
    subst hq0
    clear hq
    have hnw5 : w5.heap.size ≠ S := by have := (Src_le hT5.1).2.2; omega
    have HN := Lib.hid (fun W (hb : Below w5.heap.size w5 W) => l01Next_any B S 2 W (hT5.below hb).1 (by decide))
    have HG := Lib.hid (fun W W' (hb : Below w5.heap.size w5 W) (hS : Src B W' S) (hg : W.grownBy W' (some S)) => And.intro ((hT5.below hb).next hS hg) (And.intro ((hP5.keep hb).grow hg hne) ((hX5.keep hb).grow hg hneX)))
    clear hP5 hX5 hT5
    have HK := Lib.hid (fun (k : Nat) (hk : k < 2) => show ∃ x : Int, (-1000 ≤ x ∧ x ≤ 1000) ∧ (∀ W : World, (W.alloc (.cells #[.int .i64 (-1), .int .i64 (1 + r1)] 2)).cell? ⟨W.heap.size, k, none⟩ = some (.int .i64 x)) from
      match k, hk with
      | 0, _ => ⟨-1, by omega, fun W => cell_new W _ _ 0⟩
      | 1, _ => ⟨1 + r1, by omega, fun W => cell_new W _ _ 1⟩)
    go_wp2_with fail
    go_region_with (first | (go_at_call 46; refine (HN.out _ (by repeat (first | exact Below.refl _ _ | refine Below.drew ?_ | refine Below.alloc ?_ (by simp) _))).mono ?_; rintro e w7 ⟨r, rfl, ha0, ha1, hS7, hg7⟩; obtain ⟨k, rfl⟩ := Int.eq_ofNat_of_zero_le ha0; have hk : k < 2 := (by omega); obtain ⟨x, hxf, hcn⟩ := HK.out k hk; have b1 : (0 : Int) ≤ (k : Int) := (by omega); have b2 : (k : Int) < 2 := (by omega); (try (have hcell := lit_cellB (k := k) hnw5 hg7 (by simp) (by first | exact hcn w5 | exact hcn w5.drew | exact hcn w5.drew.drew))); obtain ⟨hT7, hP7, hX7⟩ := HG.out _ _ (by repeat (first | exact Below.refl _ _ | refine Below.drew ?_ | refine Below.alloc ?_ (by simp) _)) hS7 hg7; clear s0 s1 s2 s3 s4 s5; obtain ⟨s0, s1, s2, s3, s4, s5⟩ := id hX7; obtain ⟨p0, p1, p2, p3, p4, p5⟩ := id hP7))
    all_goals go_wp2_with fail
    all_goals have hZ := Slot4.set _ (hP7.oth (by omega : w.heap.size ≠ w3.heap.size) 0 (.int .i64 x)) (.int .i64 x) (.int .i64 (1 + r1)) (.int .i64 r2) (.string s)
    all_goals have hTz := StS.set4 (a := .int .i64 x) (b := .int .i64 (1 + r1)) (c := .int .i64 r2) (d := .string s) (hT7.set (v := .int .i64 x) (i := 0) hneX (by omega) hB0) hne (Nat.le_refl _) hB0
    case _ =>
      obtain ⟨z0, z1, z2, z3, z4, z5⟩ := id hZ
      exact bodyPost_ret (v := .agg #[.int .i64 x, .int .i64 (1 + r1), .int .i64 r2, .string s]) (by simp [results, Try.results49, go_sem, z1, z2, z3, z4]) rfl ⟨x, (1 + r1), r2, s, rfl, by omega, by omega, by omega, hs, hTz.1, hTz.2⟩
    all_goals
      have hal := Below.alloc (Below.refl _ ((((w7.setCell ⟨w3.heap.size, 0, none⟩ (.int .i64 x)).setCell ⟨w.heap.size, 0, none⟩ (.int .i64 x)).setCell ⟨w.heap.size, 1, none⟩ (.int .i64 (1 + r1))).setCell ⟨w.heap.size, 2, none⟩ (.int .i64 r2) |>.setCell ⟨w.heap.size, 3, none⟩ (.string s))) (Nat.le_refl _) (.cells #[.int .i64 (-1), .int .i64 (1 + r1)] 2)
      replace hTz := hTz.below hal
      obtain ⟨z0, z1, z2, z3, z4, z5⟩ := hZ.keep hal
      exact bodyPost_ret (v := .agg #[.int .i64 x, .int .i64 (1 + r1), .int .i64 r2, .string s]) (by simp [results, Try.results49, go_sem, z1, z2, z3, z4]) rfl ⟨x, (1 + r1), r2, s, rfl, by omega, by omega, by omega, hs, hTz.1, hTz.2⟩
  · by_cases hq1 : r = 1
    · have hq := hq1
      subst hq1
      clear hq
      have hnw5 : w5.heap.size ≠ S := by have := (Src_le hT5.1).2.2; omega
      have hal : Below w5.heap.size w5 (w5.alloc (.cells (ints .i64 [0, 9]).toArray 2)) := Below.alloc (Below.refl _ _) (Nat.le_refl _) _
      have hT6 := hT5.below hal
      have hP6 := hP5.keep hal
      have hX6 := hX5.keep hal
      clear s0 s1 s2 s3 s4 s5 hP5 hX5 hT5 hal
      obtain ⟨s0, s1, s2, s3, s4, s5⟩ := id hX6
      go_wp2_with fail
      refine (l01Next_any _ S 2 _ hT6.1 (by decide)).mono ?_
      rintro e w7 ⟨r, rfl, ha0, ha1, hS7, hg7⟩
      obtain ⟨k, rfl⟩ := Int.eq_ofNat_of_zero_le ha0
      have hk : k < 2 := by omega
      obtain ⟨x, hx⟩ : ∃ x, ([0, 9] : List Int)[k]? = some x := ⟨_, List.getElem?_eq_getElem (by simpa using hk)⟩
      have hcell := lit_cell hnw5 hg7 hx
      have hxm := List.mem_of_getElem? hx
      have hxf : -1000 ≤ x ∧ x ≤ 1000 := by
        simp only [List.mem_cons, List.not_mem_nil, or_false] at hxm
        omega
      have hT7 := hT6.next hS7 hg7
      have hP7 := hP6.grow hg7 hne
      have hX7 := hX6.grow hg7 hneX
      have b1 : (0 : Int) ≤ (k : Int) := by omega
      have b2 : (k : Int) < 2 := by omega
      clear s0 s1 s2 s3 s4 s5 hP6 hX6 hT6 hS7 hg7 hx hxm ha0 ha1
      obtain ⟨s0, s1, s2, s3, s4, s5⟩ := id hX7
      obtain ⟨p0, p1, p2, p3, p4, p5⟩ := id hP7
      go_wp2_with fail
      obtain ⟨z0, z1, z2, z3, z4, z5⟩ := Slot4.set _ (hP7.oth (by omega : w.heap.size ≠ w3.heap.size) 1 (.int .i64 x)) (.int .i64 r3) (.int .i64 x) (.int .i64 r2) (.string s)
      have hTz := StS.set4 (a := .int .i64 r3) (b := .int .i64 x) (c := .int .i64 r2) (d := .string s) (hT7.set (v := .int .i64 x) (i := 1) hneX (by omega) hB0) hne (Nat.le_refl _) hB0
      exact bodyPost_ret (v := .agg #[.int .i64 r3, .int .i64 x, .int .i64 r2, .string s]) (by simp [results, Try.results49, go_sem, z1, z2, z3, z4]) rfl ⟨r3, x, r2, s, rfl, by omega, by omega, by omega, hs, hTz.1, hTz.2⟩
    · by_cases hq2 : r = 2
      · have hq := hq2
        subst hq2
        clear hq
        have hnw5 : w5.heap.size ≠ S := by have := (Src_le hT5.1).2.2; omega
        have hal : Below w5.heap.size w5 (w5.alloc (.cells (ints .i64 [-1, 256]).toArray 2)) := Below.alloc (Below.refl _ _) (Nat.le_refl _) _
        have hT6 := hT5.below hal
        have hP6 := hP5.keep hal
        have hX6 := hX5.keep hal
        clear s0 s1 s2 s3 s4 s5 hP5 hX5 hT5 hal
        obtain ⟨s0, s1, s2, s3, s4, s5⟩ := id hX6
        go_wp2_with fail
        refine (l01Next_any _ S 2 _ hT6.1 (by decide)).mono ?_
        rintro e w7 ⟨r, rfl, ha0, ha1, hS7, hg7⟩
        obtain ⟨k, rfl⟩ := Int.eq_ofNat_of_zero_le ha0
        have hk : k < 2 := by omega
        obtain ⟨x, hx⟩ : ∃ x, ([-1, 256] : List Int)[k]? = some x := ⟨_, List.getElem?_eq_getElem (by simpa using hk)⟩
        have hcell := lit_cell hnw5 hg7 hx
        have hxm := List.mem_of_getElem? hx
        have hxf : -1000 ≤ x ∧ x ≤ 1000 := by
          simp only [List.mem_cons, List.not_mem_nil, or_false] at hxm
          omega
        have hT7 := hT6.next hS7 hg7
        have hP7 := hP6.grow hg7 hne
        have hX7 := hX6.grow hg7 hneX
        have b1 : (0 : Int) ≤ (k : Int) := by omega
        have b2 : (k : Int) < 2 := by omega
        clear s0 s1 s2 s3 s4 s5 hP6 hX6 hT6 hS7 hg7 hx hxm ha0 ha1
        obtain ⟨s0, s1, s2, s3, s4, s5⟩ := id hX7
        obtain ⟨p0, p1, p2, p3, p4, p5⟩ := id hP7
        go_wp2_with fail
        obtain ⟨z0, z1, z2, z3, z4, z5⟩ := Slot4.set _ (hP7.oth (by omega : w.heap.size ≠ w3.heap.size) 2 (.int .i64 x)) (.int .i64 r3) (.int .i64 (1 + r1)) (.int .i64 x) (.string s)
        have hTz := StS.set4 (a := .int .i64 r3) (b := .int .i64 (1 + r1)) (c := .int .i64 x) (d := .string s) (hT7.set (v := .int .i64 x) (i := 2) hneX (by omega) hB0) hne (Nat.le_refl _) hB0
        exact bodyPost_ret (v := .agg #[.int .i64 r3, .int .i64 (1 + r1), .int .i64 x, .string s]) (by simp [results, Try.results49, go_sem, z1, z2, z3, z4]) rfl ⟨r3, (1 + r1), x, s, rfl, by omega, by omega, by omega, hs, hTz.1, hTz.2⟩
      · have h0 : (r == 0) = false := by rw [beq_eq_false_iff_ne]; exact hq0
        have h1 : (r == 1) = false := by rw [beq_eq_false_iff_ne]; exact hq1
        have h2 : (r == 2) = false := by rw [beq_eq_false_iff_ne]; exact hq2
        clear hq0 hq1 hq2
        obtain ⟨p0, p1, p2, p3, p4, p5⟩ := id hP5
        go_wp2_with fail
        obtain ⟨z0, z1, z2, z3, z4, z5⟩ := Slot4.set _ hP5 (.int .i64 r3) (.int .i64 (1 + r1)) (.int .i64 r2) (.string s)
        have hTz := StS.set4 (a := .int .i64 r3) (b := .int .i64 (1 + r1)) (c := .int .i64 r2) (d := .string s) hT5 hne (Nat.le_refl _) hB0
        exact bodyPost_ret (v := .agg #[.int .i64 r3, .int .i64 (1 + r1), .int .i64 r2, .string s]) (by simp [results, Try.results49, go_sem, z1, z2, z3, z4]) rfl ⟨r3, (1 + r1), r2, s, rfl, by omega, by omega, by omega, hs, hTz.1, hTz.2⟩
end Go.Proofs.Ytnajjofaijpciaa
/-
  Contract: the table of best cells: what is asked of its rows.
  Conditions: messages of at most 1000 bytes.
-/
set_option linter.unusedVariables false
namespace Go.Proofs.Ytnajjofaijpciaa
open Go.RowKit Go.G8
structure CellT where
  ln : Int
  ct : Int
  sz : Int
  md : Int
def cC (p : CellT) : List Value := [.int .i64 p.ln, .int .i64 p.ct, .int .i64 p.sz, .int .i64 p.md]
def zC : CellT := ⟨0, 0, 0, 0⟩
theorem cflat {l : List CellT} {k j : Nat} {p : CellT} (h : l[k]? = some p) (hj : j < 4) : (l.flatMap cC)[k * 4 + j]? = (cC p)[j]? := by
  induction l generalizing k with
  | nil => simp at h
  | cons q l ih =>
    rw [List.flatMap_cons]
    have hp : (cC q).length = 4 := rfl
    cases k with
    | zero =>
      obtain rfl : q = p := by simpa using h
      rw [List.getElem?_append_left (by omega)]
      simp
    | succ k =>
      rw [List.getElem?_append_right (by omega), hp, show (k + 1) * 4 + j - 4 = k * 4 + j by omega]
      exact ih (by simpa using h)
theorem cflat_len (l : List CellT) : (l.flatMap cC).length = l.length * 4 := by
  induction l with
  | nil => rfl
  | cons p l ih => rw [List.flatMap_cons, List.length_append, ih, List.length_cons]; show 4 + _ = _; omega
theorem made_cells (n : Nat) : (madeCells #[.int .i64 0, .int .i64 0, .int .i64 0, .int .i64 0] (n * 4)).toList = (List.replicate n zC).flatMap cC := by
  apply List.ext_getElem?
  intro m
  by_cases hm : m < n * 4
  · have h1 : ((List.replicate n zC).flatMap cC)[(m / 4) * 4 + m % 4]? = (cC zC)[m % 4]? := cflat (by rw [List.getElem?_replicate, if_pos (by omega)]) (by omega)
    rw [show (m / 4) * 4 + m % 4 = m by omega] at h1
    rw [h1]
    have h4 : m % 4 = 0 ∨ m % 4 = 1 ∨ m % 4 = 2 ∨ m % 4 = 3 := by omega
    simp only [madeCells, Array.toList_map, List.getElem?_map, Array.toList_range, List.getElem?_range hm]
    rcases h4 with e | e | e | e <;> (simp [e, cC, zC])
  · rw [List.getElem?_eq_none, List.getElem?_eq_none]
    · rw [cflat_len, List.length_replicate]; omega
    · rw [Array.length_toList, size_madeCells]; omega
theorem cset4 {T : List CellT} {i : Nat} (h : i < T.length) (p : CellT) : ((((((T.flatMap cC).set (i * 4) (.int .i64 p.ln)).set (i * 4 + 1) (.int .i64 p.ct)).set (i * 4 + 2) (.int .i64 p.sz)).set (i * 4 + 3) (.int .i64 p.md))) = (T.set i p).flatMap cC := by
  have e : T = T.take i ++ T[i] :: T.drop (i + 1) := by conv => lhs; rw [← List.take_append_drop i T, List.drop_eq_getElem_cons h]
  have e2 : T.set i p = T.take i ++ p :: T.drop (i + 1) := by rw [List.set_eq_take_append_cons_drop, if_pos h]
  have hl := cflat_len (T.take i)
  rw [List.length_take, Nat.min_eq_left (Nat.le_of_lt h)] at hl
  rw [e2]
  conv => lhs; rw [e]
  have h4 : (cC T[i]).length = 4 := rfl
  rw [List.flatMap_append, List.flatMap_append, List.flatMap_cons, List.flatMap_cons]
  rw [List.set_append_right _ _ (by omega), List.set_append_right _ _ (by omega), List.set_append_right _ _ (by omega), List.set_append_right _ _ (by omega), hl]
  rw [show i * 4 - i * 4 = 0 by omega, show i * 4 + 1 - i * 4 = 1 by omega, show i * 4 + 2 - i * 4 = 2 by omega, show i * 4 + 3 - i * 4 = 3 by omega]
  rfl
theorem info_cell : (Try.prog.info? 121).map (fun i => (i.zero, i.size, i.bytes)) = some (some (.agg #[.int .i64 0, .int .i64 0, .int .i64 0, .int .i64 0]), 4, 32) := by kernel_rfl
def goodC (n j : Nat) (c : CellT) : Prop := (1 ≤ c.sz ∧ c.sz ≤ 255 ∧ (j : Int) + c.sz ≤ n) ∧ (1 ≤ c.md ∧ c.md ≤ 4) ∧ (0 ≤ c.ln ∧ c.ln ≤ 100000 * ((n : Int) - j)) ∧ (0 ≤ c.ct ∧ c.ct ≤ (n : Int) - j)
structure TabC (n i : Nat) (T : List CellT) : Prop where
  len : T.length = n + 1
  good : ∀ j, i ≤ j → j < n → ∃ c, T[j]? = some c ∧ goodC n j c
  last : T[n]? = some zC
theorem TabC.bd {n i : Nat} {T : List CellT} (h : TabC n i T) {j : Nat} (h1 : i ≤ j) (h2 : j ≤ n) : ∃ c, T[j]? = some c ∧ (0 ≤ c.ln ∧ c.ln ≤ 100000 * ((n : Int) - j)) ∧ (0 ≤ c.ct ∧ c.ct ≤ (n : Int) - j) := by
  by_cases e : j = n
  · subst e
    exact ⟨zC, h.last, ⟨by decide, by show (0 : Int) ≤ _; omega⟩, by decide, by show (0 : Int) ≤ _; omega⟩
  · obtain ⟨c, hc, g1, g2, g3, g4⟩ := h.good j h1 (by omega)
    exact ⟨c, hc, g3, g4⟩
theorem TabC.set {n i : Nat} {T : List CellT} (h : TabC n (i + 1) T) (hi : i < n) (c : CellT) : TabC n (i + 1) (T.set i c) := by
  refine ⟨by rw [List.length_set]; exact h.len, fun j h1 h2 => ?_, ?_⟩
  · obtain ⟨d, hd, hg⟩ := h.good j h1 h2
    exact ⟨d, by rw [List.getElem?_set_ne (by omega)]; exact hd, hg⟩
  · rw [List.getElem?_set_ne (by omega)]; exact h.last
theorem TabC.step {n i : Nat} {T : List CellT} (h : TabC n (i + 1) T) {c : CellT} (hc : T[i]? = some c) (hg : goodC n i c) : TabC n i T := by
  refine ⟨h.len, fun j h1 h2 => ?_, h.last⟩
  by_cases e : j = i
  · subst e; exact ⟨c, hc, hg⟩
  · exact h.good j (by omega) h2
theorem ownC_cells {B g c n k : Nat} {w : World} {l : List CellT} {q : CellT} (h : OwV 121 4 B w (some ⟨g, 0, none⟩) n c (l.flatMap cC)) (hk : l[k]? = some q) :
    w.cell? ⟨g, k * 4, none⟩ = some (.int .i64 q.ln) ∧ w.cell? ⟨g, k * 4 + 1, none⟩ = some (.int .i64 q.ct) ∧ w.cell? ⟨g, k * 4 + 2, none⟩ = some (.int .i64 q.sz) ∧ w.cell? ⟨g, k * 4 + 3, none⟩ = some (.int .i64 q.md) := by
  have c := fun j (hj : j < 4) v (hv : (cC q)[j]? = some v) => h.cellAt ((cflat hk hj).trans hv)
  exact ⟨c 0 (by omega) _ rfl, c 1 (by omega) _ rfl, c 2 (by omega) _ rfl, c 3 (by omega) _ rfl⟩
theorem ownC_set {B g c n i : Nat} {w : World} {T : List CellT} (h : OwV 121 4 B w (some ⟨g, 0, none⟩) n c (T.flatMap cC)) (hi : i < T.length) (p : CellT) :
    OwV 121 4 B ((((w.setCell ⟨g, i * 4, none⟩ (.int .i64 p.ln)).setCell ⟨g, i * 4 + 1, none⟩ (.int .i64 p.ct)).setCell ⟨g, i * 4 + 2, none⟩ (.int .i64 p.sz)).setCell ⟨g, i * 4 + 3, none⟩ (.int .i64 p.md)) (some ⟨g, 0, none⟩) n c ((T.set i p).flatMap cC) := by
  have := (((h.set_ (i * 4) (.int .i64 p.ln)).set_ (i * 4 + 1) (.int .i64 p.ct)).set_ (i * 4 + 2) (.int .i64 p.sz)).set_ (i * 4 + 3) (.int .i64 p.md)
  rwa [cset4 hi] at this
/-- A block of four zeros, laid ahead of a call. -/
theorem zeros4 {W3 w5 : World} {b : Nat} {T : TypeId} (hb : Below (W3.alloc (.cells #[.int .i64 0, .int .i64 0, .int .i64 0, .int .i64 0] T)).drew.heap.size (W3.alloc (.cells #[.int .i64 0, .int .i64 0, .int .i64 0, .int .i64 0] T)).drew w5) (hn : W3.heap.size = b) : Slot4 w5 b (.int .i64 0) (.int .i64 0) (.int .i64 0) (.int .i64 0) := by
  subst hn
  exact ((Slot4.new W3 (.int .i64 0) (.int .i64 0) (.int .i64 0) (.int .i64 0) T).keep ((Below.refl _ _).drew)).keep hb
theorem below_allocdrew (W3 : World) (o : Obj) : Below W3.heap.size W3 (W3.alloc o).drew := (Below.alloc (Below.refl _ _) (Nat.le_refl _) _).drew
end Go.Proofs.Ytnajjofaijpciaa
