/-
  Contracts: the library of families, by the program: the whole of it.
  Conditions: none.
-/
import Derived.Test.YtckmenjbblgiiaaFamL
set_option linter.unusedVariables false
namespace Go.Proofs.Ytckmenjbblgiiaa
open Go.RowKit Go.G8
def fam1 : FamV := ⟨⟨#[116, 105, 108, 101]⟩, 1, 16, 0, [17, 21, 25], [20, 40]⟩
def fam2 : FamV := ⟨⟨#[112, 97, 110, 101, 108]⟩, 1, 64, 0, [17, 21, 25, 29, 33], [15, 30, 60]⟩
def fam3 : FamV := ⟨⟨#[112, 108, 97, 116, 101]⟩, 1, 256, 0, [17, 21, 25, 29, 33, 37, 41], [10, 20, 30, 50]⟩
def fam4 : FamV := ⟨⟨#[115, 116, 97, 99, 107]⟩, 2, 32, 4, [4, 6, 8, 12, 16, 24], [25, 50]⟩
def fam5 : FamV := ⟨⟨#[114, 105, 98, 98, 111, 110]⟩, 2, 32, 8, [3, 4, 5], [30]⟩
def lib5 : List FamV := [fam1, fam2, fam3, fam4, fam5]
/-- The two lists of a family, just made. -/
def newD (w : World) (f : FamV) : FamD := ⟨some ⟨w.heap.size, 0, none⟩, f.xs.length, some ⟨w.heap.size + 1, 0, none⟩, f.ys.length⟩
def twoW (w : World) (f : FamV) : World := (w.alloc (.cells (ints .i64 f.xs).toArray 2)).alloc (.cells (ints .i64 f.ys).toArray 2)
theorem twoW_below (w : World) (f : FamV) : Below w.heap.size w (twoW w f) ∧ (twoW w f).heap.size = w.heap.size + 1 + 1 := by
  unfold twoW
  exact ⟨Below.alloc (Below.alloc (Below.refl w.heap.size w) (Nat.le_refl _) _) (by simp) _, by simp⟩
theorem newD_row {D : Nat} {w : World} (f : FamV) (hD : D ≤ w.heap.size) (hx : f.xs.length ≤ 1000) (hy : f.ys.length ≤ 1000) : RowOK D (twoW w f) (f, newD w f) := by
  have h1 := Ow.lit (K := .i64) (E := 2) (B := D) (xs := f.xs) w hD (by omega)
  have hb := Below.alloc (Below.refl (w.alloc (.cells (ints .i64 f.xs).toArray 2)).heap.size (w.alloc (.cells (ints .i64 f.xs).toArray 2))) (Nat.le_refl _) (.cells (ints .i64 f.ys).toArray 2)
  have hs : (w.alloc (.cells (ints .i64 f.xs).toArray 2)).heap.size = w.heap.size + 1 := by simp
  have h2 := Ow.lit (K := .i64) (E := 2) (B := D) (xs := f.ys) (w.alloc (.cells (ints .i64 f.xs).toArray 2)) (by omega) (by omega)
  rw [hs] at h2
  refine ⟨h1.keep hb, h2, fun g g1 g2 => ?_⟩
  simp [newD, blk] at g1 g2
  omega
theorem newD_far {D : Nat} {w : World} (f : FamV) {p : FamV × FamD} (h : RowOK D w p) : Far p (f, newD w f) := by
  have e1 : ∀ r n c xs, Ow .i64 2 D w r n c xs → Apart r (newD w f).a := fun r n c xs hr g g1 g2 => by
    have := (hr.lt g g1).2
    simp [newD, blk] at g2
    omega
  have e2 : ∀ r n c xs, Ow .i64 2 D w r n c xs → Apart r (newD w f).b := fun r n c xs hr g g1 g2 => by
    have := (hr.lt g g1).2
    simp [newD, blk] at g2
    omega
  exact ⟨e1 _ _ _ _ h.1, e2 _ _ _ _ h.1, e1 _ _ _ _ h.2.1, e2 _ _ _ _ h.2.1⟩
theorem add_new {D P b : Nat} {w : World} {a : Option Addr} {c : Nat} {l : List (FamV × FamD)} (h : ShSt D P b w a c l) (f : FamV) (hl : l.length ≤ 1000) (hx : f.xs.length ≤ 1000) (hy : f.ys.length ≤ 1000) (hbw : b ≤ w.heap.size) (hsz : -9223372036854775808 ≤ f.sz ∧ f.sz ≤ 9223372036854775807) :
    Calls Try.prog 113 #[.string f.nm, .int .i64 f.kd, .int .i64 f.sz, .int .i64 f.co, .slice (some ⟨w.heap.size, 0, none⟩) f.xs.length f.xs.length, .slice (some ⟨w.heap.size + 1, 0, none⟩) f.ys.length f.ys.length, .pointer (some ⟨P, 0, none⟩)] (twoW w f)
      (fun e w' => e = .returned (.tuple #[]) ∧ ∃ a' c', ShSt D P b w' a' c' (l ++ [(f, newD w f)]) ∧ Below b w w') := by
  obtain ⟨hb, hs⟩ := twoW_below w f
  have hD : D ≤ w.heap.size := h.1.2.2.2
  have hap : ∀ g, blk a = some g → g < w.heap.size := fun g e => (h.2.2.2.2.1.lt g e).2
  refine (add_any D P b (twoW w f) a c l (f, newD w f) (shSt_keep h hb) hl (newD_row f hD hx hy) (fun g g1 g2 => ?_) (fun g g1 g2 => ?_) (fun p hp => newD_far f ((h.2.2.2.2.2.1 p hp).1)) (by omega) hsz).mono ?_
  · have := hap g g2
    simp [newD, blk] at g1
    omega
  · have := hap g g2
    simp [newD, blk] at g1
    omega
  · rintro e w' ⟨rfl, a', c', h1, h2⟩
    exact ⟨rfl, a', c', h1, (hb.mono hbw).trans h2⟩
set_option maxHeartbeats 2000000 in
set_option maxRecDepth 20000 in
theorem build_any (b : Nat) (w : World) (hb : b < w.heap.size) (h0 : w.cell? ⟨b, 0, none⟩ = some (.int .u32 0)) (h1 : w.cell? ⟨b, 1, none⟩ = some (.int .i32 1)) (h3 : w.cell? ⟨b, 3, none⟩ = some (.slice none 0 0)) (hz : ∀ i, w.frozen? ⟨b, i, none⟩ = false) :
    Calls Try.prog 86 #[.pointer (some ⟨b, 0, none⟩)] w (fun e w' => e = .returned (.tuple #[]) ∧ ∃ a c l, l.map (·.1) = lib5 ∧ ShSt (w.heap.size + 1) w.heap.size b w' a c l ∧ Below b w w') := by
  have hal := Below.alloc (Below.refl w.heap.size w) (Nat.le_refl _) (.cells #[.pointer (some ⟨b, 0, none⟩)] 109)
  have hS : ShSt (w.heap.size + 1) w.heap.size b (w.alloc (.cells #[.pointer (some ⟨b, 0, none⟩)] 109)) none 0 [] :=
    ⟨⟨by omega, by omega, by omega, by simp⟩, by rw [cell_of_row _ _ _ _ _ (0, 0) (heap_alloc_new w _)]; rfl, ⟨((bcell hal).1 b 0 hb).trans h0, ((bcell hal).1 b 1 hb).trans h1, ((bcell hal).1 b 3 hb).trans h3⟩, fun i => ((bcell hal).2 b i hb).trans (hz i), OwV.nil _ _ _ _, fun q hq => by simp at hq, List.Pairwise.nil⟩
  have hB := hal.mono (show b ≤ w.heap.size by omega)
  go_enter Try.func86, Try.ntmps86
  have hs1 : (w.alloc (.cells #[.pointer (some ⟨b, 0, none⟩)] 109)).heap.size = w.heap.size + 1 := by simp
  go_wp2_with fail
  generalize (w.alloc (.cells #[.pointer (some ⟨b, 0, none⟩)] 109)) = W0 at *
  have HA1 := add_new hS fam1 (by simp) (by decide) (by decide) (by omega) (by decide)
  rw [hs1] at HA1
  have HB1 : Calls Try.prog 113 #[.string ⟨#[116, 105, 108, 101]⟩, .int .i64 1, .int .i64 16, .int .i64 0, .slice (some ⟨w.heap.size + 1, 0, none⟩) 3 3, .slice (some ⟨w.heap.size + 1 + 1, 0, none⟩) 2 2, .pointer (some ⟨w.heap.size, 0, none⟩)] ((W0.alloc (.cells #[.int .i64 17, .int .i64 21, .int .i64 25] 2)).alloc (.cells #[.int .i64 20, .int .i64 40] 2)) _ := HA1
  skip
  refine HB1.mono ?_
  rintro e w1 ⟨rfl, a1, c1, hS1, hb1⟩
  replace hb1 := hB.trans hb1
  have hs1b : w.heap.size + 1 ≤ w1.heap.size := hS1.1.2.2.2
  clear HA1 HB1 hS hB hs1
  have HA2 := add_new hS1 fam2 (by simp) (by decide) (by decide) (by have := hs1b; omega) (by decide)
  have HB2 : Calls Try.prog 113 #[.string ⟨#[112, 97, 110, 101, 108]⟩, .int .i64 1, .int .i64 64, .int .i64 0, .slice (some ⟨w1.heap.size, 0, none⟩) 5 5, .slice (some ⟨w1.heap.size + 1, 0, none⟩) 3 3, .pointer (some ⟨w.heap.size, 0, none⟩)] ((w1.alloc (.cells #[.int .i64 17, .int .i64 21, .int .i64 25, .int .i64 29, .int .i64 33] 2)).alloc (.cells #[.int .i64 15, .int .i64 30, .int .i64 60] 2)) _ := HA2
  go_wp2_with fail
  refine HB2.mono ?_
  rintro e w2 ⟨rfl, a2, c2, hS2, hb2⟩
  replace hb2 := hb1.trans hb2
  have hs2b : w.heap.size + 1 ≤ w2.heap.size := hS2.1.2.2.2
  clear HA2 HB2 hS1 hb1
  have HA3 := add_new hS2 fam3 (by simp) (by decide) (by decide) (by have := hs2b; omega) (by decide)
  have HB3 : Calls Try.prog 113 #[.string ⟨#[112, 108, 97, 116, 101]⟩, .int .i64 1, .int .i64 256, .int .i64 0, .slice (some ⟨w2.heap.size, 0, none⟩) 7 7, .slice (some ⟨w2.heap.size + 1, 0, none⟩) 4 4, .pointer (some ⟨w.heap.size, 0, none⟩)] ((w2.alloc (.cells #[.int .i64 17, .int .i64 21, .int .i64 25, .int .i64 29, .int .i64 33, .int .i64 37, .int .i64 41] 2)).alloc (.cells #[.int .i64 10, .int .i64 20, .int .i64 30, .int .i64 50] 2)) _ := HA3
  go_wp2_with fail
  refine HB3.mono ?_
  rintro e w3 ⟨rfl, a3, c3, hS3, hb3⟩
  replace hb3 := hb2.trans hb3
  have hs3b : w.heap.size + 1 ≤ w3.heap.size := hS3.1.2.2.2
  clear HA3 HB3 hS2 hb2
  have HA4 := add_new hS3 fam4 (by simp) (by decide) (by decide) (by have := hs3b; omega) (by decide)
  have HB4 : Calls Try.prog 113 #[.string ⟨#[115, 116, 97, 99, 107]⟩, .int .i64 2, .int .i64 32, .int .i64 4, .slice (some ⟨w3.heap.size, 0, none⟩) 6 6, .slice (some ⟨w3.heap.size + 1, 0, none⟩) 2 2, .pointer (some ⟨w.heap.size, 0, none⟩)] ((w3.alloc (.cells #[.int .i64 4, .int .i64 6, .int .i64 8, .int .i64 12, .int .i64 16, .int .i64 24] 2)).alloc (.cells #[.int .i64 25, .int .i64 50] 2)) _ := HA4
  go_wp2_with fail
  refine HB4.mono ?_
  rintro e w4 ⟨rfl, a4, c4, hS4, hb4⟩
  replace hb4 := hb3.trans hb4
  have hs4b : w.heap.size + 1 ≤ w4.heap.size := hS4.1.2.2.2
  clear HA4 HB4 hS3 hb3
  have HA5 := add_new hS4 fam5 (by simp) (by decide) (by decide) (by have := hs4b; omega) (by decide)
  have HB5 : Calls Try.prog 113 #[.string ⟨#[114, 105, 98, 98, 111, 110]⟩, .int .i64 2, .int .i64 32, .int .i64 8, .slice (some ⟨w4.heap.size, 0, none⟩) 3 3, .slice (some ⟨w4.heap.size + 1, 0, none⟩) 1 1, .pointer (some ⟨w.heap.size, 0, none⟩)] ((w4.alloc (.cells #[.int .i64 3, .int .i64 4, .int .i64 5] 2)).alloc (.cells #[.int .i64 30] 2)) _ := HA5
  go_wp2_with fail
  refine HB5.mono ?_
  rintro e w5 ⟨rfl, a5, c5, hS5, hb5⟩
  replace hb5 := hb4.trans hb5
  have hs5b : w.heap.size + 1 ≤ w5.heap.size := hS5.1.2.2.2
  clear HA5 HB5 hS4 hb4
  go_wp2_with fail
  go_end0
  exact ⟨rfl, a5, c5, _, rfl, hS5, hb5⟩
def RetLib (w : World) (e : Ending) (w' : World) : Prop :=
  ∃ a c l, e = .returned (.slice a 5 c) ∧ l.map (·.1) = lib5 ∧ LibAt w.heap.size w' a c l ∧ Below w.heap.size w w'
theorem lib5_len {l : List (FamV × FamD)} (h : l.map (·.1) = lib5) : l.length = 5 := by
  have := congrArg List.length h
  rwa [List.length_map] at this
set_option maxHeartbeats 2000000 in
set_option maxRecDepth 20000 in
theorem implLibrary_any (w : World) : Calls Try.prog 45 #[] w (RetLib w) := by
  have hal := Below.alloc (Below.refl w.heap.size w) (Nat.le_refl _) (.cells #[.int .u32 0, .int .i32 0, .int .u32 0, .slice none 0 0] 123)
  have k : ∀ i v, (#[.int .u32 0, .int .i32 0, .int .u32 0, .slice none 0 0] : Array Value)[i]? = some v → (w.alloc (.cells #[.int .u32 0, .int .i32 0, .int .u32 0, .slice none 0 0] 123)).cell? ⟨w.heap.size, i, none⟩ = some v := fun i v hv => by
    rw [cell_of_row _ _ _ _ _ (0, 0) (heap_alloc_new w _), hv]
  have z : ∀ i, (w.alloc (.cells #[.int .u32 0, .int .i32 0, .int .u32 0, .slice none 0 0] 123)).frozen? ⟨w.heap.size, i, none⟩ = false := fun i => frozen_of_row _ _ _ _ _ (heap_alloc_new w _)
  have c0 := k 0 _ rfl
  have c1 := k 1 _ rfl
  have c3 := k 3 _ rfl
  have hs : (w.alloc (.cells #[.int .u32 0, .int .i32 0, .int .u32 0, .slice none 0 0] 123)).heap.size = w.heap.size + 1 := by simp
  go_enter Try.func45, Try.ntmps45
  go_wp2_with fail
  generalize (w.alloc (.cells #[.int .u32 0, .int .i32 0, .int .u32 0, .slice none 0 0] 123)) = W0 at *
  have n1 : ∀ i, i ≠ 1 → (⟨w.heap.size, 1, none⟩ : Addr) ≠ ⟨w.heap.size, i, none⟩ := fun i hi e => hi (by injection e with _ e; exact e.symm)
  have HF := build_any w.heap.size (W0.setCell ⟨w.heap.size, 1, none⟩ (.int .i32 1)) (by simp; omega) (by rw [World.cell?_setCell_other _ _ _ _ (n1 0 (by omega))]; exact c0) (World.cell?_setCell_same _ _ _ c1) (by rw [World.cell?_setCell_other _ _ _ _ (n1 3 (by omega))]; exact c3) (fun i => by have := z i; simpa using this)
  have hB1 : Below w.heap.size w (W0.setCell ⟨w.heap.size, 1, none⟩ (.int .i32 1)) := hal.setCell (Nat.le_refl _) _
  refine (once_do w.heap.size (fun W => ∃ a c l, l.map (·.1) = lib5 ∧ ShSt ((W0.setCell ⟨w.heap.size, 1, none⟩ (.int .i32 1)).heap.size + 1) (W0.setCell ⟨w.heap.size, 1, none⟩ (.int .i32 1)).heap.size w.heap.size W a c l ∧ Below w.heap.size (W0.setCell ⟨w.heap.size, 1, none⟩ (.int .i32 1)) W) W0 c0 c1 (z 0) (z 1) HF (fun W hW => ?_)).mono ?_
  · obtain ⟨a, c, l, -, h2, -⟩ := hW
    exact ⟨h2.2.2.1.1, h2.2.2.1.2.1, h2.2.2.2.1 0, h2.2.2.2.1 1⟩
  rintro e w' ⟨rfl, W, ⟨a, c, l, hl, hS, hb⟩, rfl⟩
  have hB2 := hB1.trans hb
  obtain ⟨⟨i1, i2, i3, i4⟩, i5, ⟨i6, i7, i8⟩, i9, i10⟩ := hS
  rw [lib5_len hl] at i8
  have hdr : Below W.heap.size W W.drew := (Below.refl _ _).drew
  have hg := keeps_trans (gs W.drew w.heap.size 0 (.int .u32 1)) (gs _ w.heap.size 1 (.int .i32 0))
  have hL := libAt_kept (libAt_keep i10 hdr) hg i1
  have hB3 : Below w.heap.size w ((W.drew.setCell ⟨w.heap.size, 0, none⟩ (.int .u32 1)).setCell ⟨w.heap.size, 1, none⟩ (.int .i32 0)) := (hB2.drew.setCell (Nat.le_refl _) _).setCell (Nat.le_refl _) _
  have hrow : LibAt w.heap.size ((W.drew.setCell ⟨w.heap.size, 0, none⟩ (.int .u32 1)).setCell ⟨w.heap.size, 1, none⟩ (.int .i32 0)) a c l := ⟨hL.1.more (by omega), fun q hq => ⟨⟨(hL.2.1 q hq).1.1.more (by omega), (hL.2.1 q hq).1.2.1.more (by omega), (hL.2.1 q hq).1.2.2⟩, (hL.2.1 q hq).2⟩, hL.2.2⟩
  have c8 : ((W.drew.setCell ⟨w.heap.size, 0, none⟩ (.int .u32 1)).setCell ⟨w.heap.size, 1, none⟩ (.int .i32 0)).cell? ⟨w.heap.size, 3, none⟩ = some (.slice a 5 c) := by
    rw [World.cell?_setCell_other _ _ _ _ (n1 3 (by omega)), World.cell?_setCell_other _ _ _ _ (by intro e; injection e with _ e; omega), World.cell?_drew]
    exact i8
  clear c0 c1 c3 k z HF
  generalize ((W.drew.setCell ⟨w.heap.size, 0, none⟩ (.int .u32 1)).setCell ⟨w.heap.size, 1, none⟩ (.int .i32 0)) = W9 at *
  go_wp2_with fail
  go_ret
  exact ⟨a, c, l, rfl, hl, hrow, hB3⟩
end Go.Proofs.Ytckmenjbblgiiaa
