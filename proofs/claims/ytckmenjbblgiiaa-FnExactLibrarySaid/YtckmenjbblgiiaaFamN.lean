/-
  Contracts: the library of families, by the reference.
  Conditions: none.
-/
import Derived.Test.YtckmenjbblgiiaaFamM
set_option linter.unusedVariables false
namespace Go.Proofs.Ytckmenjbblgiiaa
open Go.RowKit Go.G8
/-- Families whose lists have been made one behind another. -/
def LitSt (D : Nat) (w : World) (l : List (FamV × FamD)) : Prop := D ≤ w.heap.size ∧ (∀ q ∈ l, RowOK D w q) ∧ l.Pairwise Far
theorem litSt_push {D : Nat} {w : World} {l : List (FamV × FamD)} (h : LitSt D w l) (f : FamV) (hx : f.xs.length ≤ 1000) (hy : f.ys.length ≤ 1000) : LitSt D (twoW w f) (l ++ [(f, newD w f)]) := by
  obtain ⟨hb, hs⟩ := twoW_below w f
  refine ⟨by have := h.1; omega, fun q hq => ?_, ?_⟩
  · rcases List.mem_append.1 hq with hq | hq
    · exact rowOK_keep (h.2.1 q hq) hb
    · rw [List.mem_singleton.1 hq]
      exact newD_row f h.1 hx hy
  · rw [List.pairwise_append]
    exact ⟨h.2.2, List.pairwise_singleton _ _, fun p hp r hr => by rw [List.mem_singleton.1 hr]; exact newD_far f (h.2.1 p hp)⟩
theorem litSt_alloc {D E' : Nat} {w : World} {l : List (FamV × FamD)} (h : LitSt D w l) (hl : l.length ≤ 1000) (A : Array Value) (hA : A.toList = l.flatMap famCs) (hE : E' = 57) :
    LibAt D (w.alloc (.cells A E')) (some ⟨w.heap.size, 0, none⟩) l.length l := by
  subst hE
  have hal := Below.alloc (Below.refl w.heap.size w) (Nat.le_refl _) (.cells A 57)
  have hlen : A.size = l.length * 8 := by
    rw [← Array.length_toList, hA]
    clear hA h hl
    induction l with
    | nil => rfl
    | cons q l ih => rw [List.flatMap_cons, List.length_append, ih, List.length_cons]; show 8 + _ = _; omega
  have ho := World.ownsRow_lit (base := D) (e := 57) (size := 8) w A l.length h.1 (by unfold maxLen; omega) hlen
  rw [hA] at ho
  refine ⟨ho, fun q hq => ⟨rowOK_keep (h.2.1 q hq) hal, fun g g1 g2 => ?_, fun g g1 g2 => ?_⟩, h.2.2⟩
  · have := ((h.2.1 q hq).1.lt g g1).2
    simp [blk] at g2
    omega
  · have := ((h.2.1 q hq).2.1.lt g g1).2
    simp [blk] at g2
    omega
def dAt (n : Nat) (f : FamV) : FamD := ⟨some ⟨n, 0, none⟩, f.xs.length, some ⟨n + 1, 0, none⟩, f.ys.length⟩
theorem lib_lit (D n : Nat) (w : World) (A : Array Value) (hn : w.heap.size = n) (hD : D ≤ n) (hA : A.toList = [(fam1, dAt n fam1), (fam2, dAt (n + 1 + 1) fam2), (fam3, dAt (n + 1 + 1 + 1 + 1) fam3), (fam4, dAt (n + 1 + 1 + 1 + 1 + 1 + 1) fam4), (fam5, dAt (n + 1 + 1 + 1 + 1 + 1 + 1 + 1 + 1) fam5)].flatMap famCs) :
    LibAt D ((twoW (twoW (twoW (twoW (twoW w fam1) fam2) fam3) fam4) fam5).alloc (.cells A 57)) (some ⟨n + 1 + 1 + 1 + 1 + 1 + 1 + 1 + 1 + 1 + 1, 0, none⟩) 5 [(fam1, dAt n fam1), (fam2, dAt (n + 1 + 1) fam2), (fam3, dAt (n + 1 + 1 + 1 + 1) fam3), (fam4, dAt (n + 1 + 1 + 1 + 1 + 1 + 1) fam4), (fam5, dAt (n + 1 + 1 + 1 + 1 + 1 + 1 + 1 + 1) fam5)] ∧ Below D w ((twoW (twoW (twoW (twoW (twoW w fam1) fam2) fam3) fam4) fam5).alloc (.cells A 57)) := by
  have h0 : LitSt D w [] := ⟨by omega, fun q hq => by simp at hq, List.Pairwise.nil⟩
  have h1 := litSt_push h0 fam1 (by decide) (by decide)
  have s1 := (twoW_below w fam1).2
  have h2 := litSt_push h1 fam2 (by decide) (by decide)
  have s2 := (twoW_below (twoW w fam1) fam2).2
  have h3 := litSt_push h2 fam3 (by decide) (by decide)
  have s3 := (twoW_below (twoW (twoW w fam1) fam2) fam3).2
  have h4 := litSt_push h3 fam4 (by decide) (by decide)
  have s4 := (twoW_below (twoW (twoW (twoW w fam1) fam2) fam3) fam4).2
  have h5 := litSt_push h4 fam5 (by decide) (by decide)
  have s5 := (twoW_below (twoW (twoW (twoW (twoW w fam1) fam2) fam3) fam4) fam5).2
  have d : ∀ W f, newD W f = dAt W.heap.size f := fun _ _ => rfl
  rw [hn] at s1
  rw [s1] at s2
  rw [s2] at s3
  rw [s3] at s4
  rw [s4] at s5
  rw [d, d, d, d, d, s1, s2, s3, s4, hn] at h5
  have := litSt_alloc h5 (by simp) A hA rfl
  rw [s5] at this
  refine ⟨this, Below.alloc (((((((twoW_below w fam1).1.mono (by omega)).trans ((twoW_below _ fam2).1.mono (by omega))).trans ((twoW_below _ fam3).1.mono (by omega))).trans ((twoW_below _ fam4).1.mono (by omega))).trans ((twoW_below _ fam5).1.mono (by omega)))) (by omega) _⟩
set_option maxHeartbeats 2000000 in
set_option maxRecDepth 20000 in
theorem specLibrary_any (w : World) : Calls Try.prog 44 #[] w (RetLib w) := by
  have HF := Lib.hid (fun n W (h : -9223372036854775808 ≤ n ∧ n ≤ 9223372036854775807) => fieldOf_spec n W h)
  go_enter Try.func44, Try.ntmps44
  go_wp2_with fail
  skip
  refine (HF.out 16 _ (by decide)).mono ?_
  rintro e w1 ⟨rfl, hb1⟩
  have hal1 := Below.alloc (Below.refl w1.heap.size w1) (Nat.le_refl _) (.cells #[.int .i64 (rFieldOf 16).1.1, .int .i64 (rFieldOf 16).1.2.1, .int .i64 (rFieldOf 16).1.2.2] 55)
  have hC1 := Cells.new w1 #[.int .i64 (rFieldOf 16).1.1, .int .i64 (rFieldOf 16).1.2.1, .int .i64 (rFieldOf 16).1.2.2] 55 (.int .i64 0)
  have hlt1 : w1.heap.size < (w1.alloc (.cells #[.int .i64 (rFieldOf 16).1.1, .int .i64 (rFieldOf 16).1.2.1, .int .i64 (rFieldOf 16).1.2.2] 55)).heap.size := by simp
  have hB1 := bt hb1 hal1
  go_wp2_with fail
  generalize (w1.alloc (.cells #[.int .i64 (rFieldOf 16).1.1, .int .i64 (rFieldOf 16).1.2.1, .int .i64 (rFieldOf 16).1.2.2] 55)) = W1 at *
  refine (HF.out 64 _ (by decide)).mono ?_
  rintro e w2 ⟨rfl, hb2⟩
  have hc2 := hb2
  replace hb2 := bt hB1 hb2
  have hC12 := hC1.to hc2 hlt1
  have hal2 := Below.alloc (Below.refl w2.heap.size w2) (Nat.le_refl _) (.cells #[.int .i64 (rFieldOf 64).1.1, .int .i64 (rFieldOf 64).1.2.1, .int .i64 (rFieldOf 64).1.2.2] 55)
  have hC2 := Cells.new w2 #[.int .i64 (rFieldOf 64).1.1, .int .i64 (rFieldOf 64).1.2.1, .int .i64 (rFieldOf 64).1.2.2] 55 (.int .i64 0)
  have hlt2 : w2.heap.size < (w2.alloc (.cells #[.int .i64 (rFieldOf 64).1.1, .int .i64 (rFieldOf 64).1.2.1, .int .i64 (rFieldOf 64).1.2.2] 55)).heap.size := by simp
  have hB2 := bt hb2 hal2
  have hsz2 := hc2.size
  replace hC12 := hC12.to hal2 (by omega)
  go_wp2_with fail
  generalize (w2.alloc (.cells #[.int .i64 (rFieldOf 64).1.1, .int .i64 (rFieldOf 64).1.2.1, .int .i64 (rFieldOf 64).1.2.2] 55)) = W2 at *
  refine (HF.out 256 _ (by decide)).mono ?_
  rintro e w3 ⟨rfl, hb3⟩
  have hc3 := hb3
  replace hb3 := bt hB2 hb3
  have hC13 := hC12.to hc3 (by omega)
  have hC23 := hC2.to hc3 hlt2
  have hal3 := Below.alloc (Below.refl w3.heap.size w3) (Nat.le_refl _) (.cells #[.int .i64 (rFieldOf 256).1.1, .int .i64 (rFieldOf 256).1.2.1, .int .i64 (rFieldOf 256).1.2.2] 55)
  have hC3 := Cells.new w3 #[.int .i64 (rFieldOf 256).1.1, .int .i64 (rFieldOf 256).1.2.1, .int .i64 (rFieldOf 256).1.2.2] 55 (.int .i64 0)
  have hlt3 : w3.heap.size < (w3.alloc (.cells #[.int .i64 (rFieldOf 256).1.1, .int .i64 (rFieldOf 256).1.2.1, .int .i64 (rFieldOf 256).1.2.2] 55)).heap.size := by simp
  have hB3 := bt hb3 hal3
  have hsz3 := hc3.size
  replace hC13 := hC13.to hal3 (by omega)
  replace hC23 := hC23.to hal3 (by omega)
  go_wp2_with fail
  generalize (w3.alloc (.cells #[.int .i64 (rFieldOf 256).1.1, .int .i64 (rFieldOf 256).1.2.1, .int .i64 (rFieldOf 256).1.2.2] 55)) = W3 at *
  refine (HF.out 32 _ (by decide)).mono ?_
  rintro e w4 ⟨rfl, hb4⟩
  have hc4 := hb4
  replace hb4 := bt hB3 hb4
  have hC14 := hC13.to hc4 (by omega)
  have hC24 := hC23.to hc4 (by omega)
  have hC34 := hC3.to hc4 hlt3
  have hal4 := Below.alloc (Below.refl w4.heap.size w4) (Nat.le_refl _) (.cells #[.int .i64 (rFieldOf 32).1.1, .int .i64 (rFieldOf 32).1.2.1, .int .i64 (rFieldOf 32).1.2.2] 55)
  have hC4 := Cells.new w4 #[.int .i64 (rFieldOf 32).1.1, .int .i64 (rFieldOf 32).1.2.1, .int .i64 (rFieldOf 32).1.2.2] 55 (.int .i64 0)
  have hlt4 : w4.heap.size < (w4.alloc (.cells #[.int .i64 (rFieldOf 32).1.1, .int .i64 (rFieldOf 32).1.2.1, .int .i64 (rFieldOf 32).1.2.2] 55)).heap.size := by simp
  have hB4 := bt hb4 hal4
  have hs4 : (w4.alloc (.cells #[.int .i64 (rFieldOf 32).1.1, .int .i64 (rFieldOf 32).1.2.1, .int .i64 (rFieldOf 32).1.2.2] 55)).heap.size = w4.heap.size + 1 := by simp
  have hsz4 := hc4.size
  replace hC14 := hC14.to hal4 (by omega)
  replace hC24 := hC24.to hal4 (by omega)
  replace hC34 := hC34.to hal4 (by omega)
  have p1_1 : w1.heap.size < w4.heap.size + 1 := by omega
  have p1_2 : w1.heap.size < w4.heap.size + 1 + 1 := by omega
  have p1_3 : w1.heap.size < w4.heap.size + 1 + 1 + 1 := by omega
  have p1_4 : w1.heap.size < w4.heap.size + 1 + 1 + 1 + 1 := by omega
  have p1_5 : w1.heap.size < w4.heap.size + 1 + 1 + 1 + 1 + 1 := by omega
  have p1_6 : w1.heap.size < w4.heap.size + 1 + 1 + 1 + 1 + 1 + 1 := by omega
  have p1_7 : w1.heap.size < w4.heap.size + 1 + 1 + 1 + 1 + 1 + 1 + 1 := by omega
  have p1_8 : w1.heap.size < w4.heap.size + 1 + 1 + 1 + 1 + 1 + 1 + 1 + 1 := by omega
  have p1_9 : w1.heap.size < w4.heap.size + 1 + 1 + 1 + 1 + 1 + 1 + 1 + 1 + 1 := by omega
  have p1_10 : w1.heap.size < w4.heap.size + 1 + 1 + 1 + 1 + 1 + 1 + 1 + 1 + 1 + 1 := by omega
  have p1_11 : w1.heap.size < w4.heap.size + 1 + 1 + 1 + 1 + 1 + 1 + 1 + 1 + 1 + 1 + 1 := by omega
  have p2_1 : w2.heap.size < w4.heap.size + 1 := by omega
  have p2_2 : w2.heap.size < w4.heap.size + 1 + 1 := by omega
  have p2_3 : w2.heap.size < w4.heap.size + 1 + 1 + 1 := by omega
  have p2_4 : w2.heap.size < w4.heap.size + 1 + 1 + 1 + 1 := by omega
  have p2_5 : w2.heap.size < w4.heap.size + 1 + 1 + 1 + 1 + 1 := by omega
  have p2_6 : w2.heap.size < w4.heap.size + 1 + 1 + 1 + 1 + 1 + 1 := by omega
  have p2_7 : w2.heap.size < w4.heap.size + 1 + 1 + 1 + 1 + 1 + 1 + 1 := by omega
  have p2_8 : w2.heap.size < w4.heap.size + 1 + 1 + 1 + 1 + 1 + 1 + 1 + 1 := by omega
  have p2_9 : w2.heap.size < w4.heap.size + 1 + 1 + 1 + 1 + 1 + 1 + 1 + 1 + 1 := by omega
  have p2_10 : w2.heap.size < w4.heap.size + 1 + 1 + 1 + 1 + 1 + 1 + 1 + 1 + 1 + 1 := by omega
  have p2_11 : w2.heap.size < w4.heap.size + 1 + 1 + 1 + 1 + 1 + 1 + 1 + 1 + 1 + 1 + 1 := by omega
  have p3_1 : w3.heap.size < w4.heap.size + 1 := by omega
  have p3_2 : w3.heap.size < w4.heap.size + 1 + 1 := by omega
  have p3_3 : w3.heap.size < w4.heap.size + 1 + 1 + 1 := by omega
  have p3_4 : w3.heap.size < w4.heap.size + 1 + 1 + 1 + 1 := by omega
  have p3_5 : w3.heap.size < w4.heap.size + 1 + 1 + 1 + 1 + 1 := by omega
  have p3_6 : w3.heap.size < w4.heap.size + 1 + 1 + 1 + 1 + 1 + 1 := by omega
  have p3_7 : w3.heap.size < w4.heap.size + 1 + 1 + 1 + 1 + 1 + 1 + 1 := by omega
  have p3_8 : w3.heap.size < w4.heap.size + 1 + 1 + 1 + 1 + 1 + 1 + 1 + 1 := by omega
  have p3_9 : w3.heap.size < w4.heap.size + 1 + 1 + 1 + 1 + 1 + 1 + 1 + 1 + 1 := by omega
  have p3_10 : w3.heap.size < w4.heap.size + 1 + 1 + 1 + 1 + 1 + 1 + 1 + 1 + 1 + 1 := by omega
  have p3_11 : w3.heap.size < w4.heap.size + 1 + 1 + 1 + 1 + 1 + 1 + 1 + 1 + 1 + 1 + 1 := by omega
  have p4_1 : w4.heap.size < w4.heap.size + 1 := by omega
  have p4_2 : w4.heap.size < w4.heap.size + 1 + 1 := by omega
  have p4_3 : w4.heap.size < w4.heap.size + 1 + 1 + 1 := by omega
  have p4_4 : w4.heap.size < w4.heap.size + 1 + 1 + 1 + 1 := by omega
  have p4_5 : w4.heap.size < w4.heap.size + 1 + 1 + 1 + 1 + 1 := by omega
  have p4_6 : w4.heap.size < w4.heap.size + 1 + 1 + 1 + 1 + 1 + 1 := by omega
  have p4_7 : w4.heap.size < w4.heap.size + 1 + 1 + 1 + 1 + 1 + 1 + 1 := by omega
  have p4_8 : w4.heap.size < w4.heap.size + 1 + 1 + 1 + 1 + 1 + 1 + 1 + 1 := by omega
  have p4_9 : w4.heap.size < w4.heap.size + 1 + 1 + 1 + 1 + 1 + 1 + 1 + 1 + 1 := by omega
  have p4_10 : w4.heap.size < w4.heap.size + 1 + 1 + 1 + 1 + 1 + 1 + 1 + 1 + 1 + 1 := by omega
  have p4_11 : w4.heap.size < w4.heap.size + 1 + 1 + 1 + 1 + 1 + 1 + 1 + 1 + 1 + 1 + 1 := by omega
  have q10 := hC14 0 (by decide)
  have q11 := hC14 1 (by decide)
  have q12 := hC14 2 (by decide)
  have q20 := hC24 0 (by decide)
  have q21 := hC24 1 (by decide)
  have q22 := hC24 2 (by decide)
  have q30 := hC34 0 (by decide)
  have q31 := hC34 1 (by decide)
  have q32 := hC34 2 (by decide)
  have q40 := hC4 0 (by decide)
  have q41 := hC4 1 (by decide)
  have q42 := hC4 2 (by decide)
  simp at q10 q11 q12 q20 q21 q22 q30 q31 q32 q40 q41 q42
  go_wp2_with fail
  generalize (w4.alloc (.cells #[.int .i64 (rFieldOf 32).1.1, .int .i64 (rFieldOf 32).1.2.1, .int .i64 (rFieldOf 32).1.2.2] 55)) = W4 at *
  have hs4 : W4.heap.size = w4.heap.size + 1 := hs4
  have HL := lib_lit w.heap.size (w4.heap.size + 1) W4 _ hs4 (by have := hB4.size; omega) rfl
  go_ret
  exact ⟨_, _, _, rfl, rfl, HL.1, hB4.trans HL.2⟩
end Go.Proofs.Ytckmenjbblgiiaa
