/-
  The law FnExactIsFamily holds at every input.
  Conditions: none.
-/
import Derived.Test.YtckmenjbblgiiaaFamC
set_option linter.unusedVariables false
namespace Go.Proofs.Ytckmenjbblgiiaa
open Go.RowKit Go.G8
theorem fam_conj {G H : Nat} {s : ByteArray} {K p q y co : Int} {u v u' v' : Value} {W : World} (h : Fam8 G s K p q y u co v W) (k : Fam8 H s K p q y u' co v' W) :
    W.cell? ⟨G, 0, none⟩ = some (.string s) ∧ W.cell? ⟨G, 1, none⟩ = some (.int .i64 K) ∧ W.cell? ⟨G, 2, none⟩ = some (.int .i64 p) ∧ W.cell? ⟨G, 3, none⟩ = some (.int .i64 q) ∧ W.cell? ⟨G, 4, none⟩ = some (.int .i64 y) ∧ W.cell? ⟨G, 5, none⟩ = some u ∧ W.cell? ⟨G, 6, none⟩ = some (.int .i64 co) ∧ W.cell? ⟨G, 7, none⟩ = some v ∧
    W.cell? ⟨H, 0, none⟩ = some (.string s) ∧ W.cell? ⟨H, 1, none⟩ = some (.int .i64 K) ∧ W.cell? ⟨H, 2, none⟩ = some (.int .i64 p) ∧ W.cell? ⟨H, 3, none⟩ = some (.int .i64 q) ∧ W.cell? ⟨H, 4, none⟩ = some (.int .i64 y) ∧ W.cell? ⟨H, 5, none⟩ = some u' ∧ W.cell? ⟨H, 6, none⟩ = some (.int .i64 co) ∧ W.cell? ⟨H, 7, none⟩ = some v' := by
  obtain ⟨h0, h1, h2, h3, h4, h5, h6, h7⟩ := h
  obtain ⟨k0, k1, k2, k3, k4, k5, k6, k7⟩ := k
  exact ⟨h0, h1, h2, h3, h4, h5, h6, h7, k0, k1, k2, k3, k4, k5, k6, k7⟩
set_option maxHeartbeats 4000000 in
set_option maxRecDepth 20000 in
theorem law_FnExactIsFamily (s : ByteArray) (K p q y : Int) (a1 : Option Addr) (n1 k1 : Nat) (xs : List Int) (co : Int) (a2 : Option Addr) (n2 k2 : Nat) (ys : List Int) (w : World) (hs : s.size ≤ maxLen) (f1 : fits .i64 K) (f2 : fits .i64 p) (f3 : fits .i64 q) (f4 : fits .i64 y) (h1 : Rd .i64 w a1 n1 xs) (hk1 : n1 ≤ k1 ∧ k1 ≤ maxLen) (f5 : fits .i64 co) (h2 : Rd .i64 w a2 n2 ys) (hk2 : n2 ≤ k2 ∧ k2 ≤ maxLen) :
    Calls Try.prog 8 #[.agg #[.string s, .int .i64 K, .int .i64 p, .int .i64 q, .int .i64 y, .slice a1 n1 k1, .int .i64 co, .slice a2 n2 k2]] w (Ret (.bool true) w) := by
  have hm : maxLen ≤ 9223372036854775807 := by unfold maxLen; omega
  have hF := fam_new w s K p q y (.slice a1 n1 k1) co (.slice a2 n2 k2) 52
  have hal := Below.alloc (Below.refl w.heap.size w) (Nat.le_refl _) (.cells #[.string s, .int .i64 K, .int .i64 p, .int .i64 q, .int .i64 y, .slice a1 n1 k1, .int .i64 co, .slice a2 n2 k2] 52)
  have hlt0 : w.heap.size < (w.alloc (.cells #[.string s, .int .i64 K, .int .i64 p, .int .i64 q, .int .i64 y, .slice a1 n1 k1, .int .i64 co, .slice a2 n2 k2] 52)).heap.size := by simp
  have HZ := Lib.hid (fun w => szFamily_any s K p q y co a1 a2 n1 k1 n2 k2 w (by omega) (by omega) (by omega))
  obtain ⟨g0, g1, g2, g3, g4, g5, g6, g7⟩ := id hF
  by_cases hsz : s.size + n1 + n2 ≤ 1048576
  · rw [if_pos hsz] at HZ
    have hd : decide ((1048576 : Int) - ((s.size + n1 + n2 : Nat) : Int) < 0) = false := by simp; omega
    have HT := Lib.hid (fun w h1 h2 => toFamily_any s K p q y co a1 a2 n1 k1 n2 k2 xs ys w h1 (by omega) h2 (by omega))
    have HL1 := Lib.hid h1.len
    have HL2 := Lib.hid h2.len
    have HF1 := Lib.hid h1.2
    have HF2 := Lib.hid h2.2
    generalize hsum : ((1048576 : Int) - ((s.size + n1 + n2 : Nat) : Int)) = L at *
    go_enter Try.func8, Try.ntmps8
    go_wp2_with fail
    generalize (w.alloc (.cells #[.string s, .int .i64 K, .int .i64 p, .int .i64 q, .int .i64 y, .slice a1 n1 k1, .int .i64 co, .slice a2 n2 k2] 52)) = W0 at *
    have HG := Lib.hid (fun W (hW : Below W0.heap.size W0 W) => hF.to hlt0 hW)
    have HX := Lib.hid (fun W (hW : Below W0.heap.size W0 W) => h1.to (bt hal hW))
    have HY := Lib.hid (fun W (hW : Below W0.heap.size W0 W) => h2.to (bt hal hW))
    have HAL := Lib.hid hal
    clear hF hlt0 h1 h2 hal hsum
    refine (HZ.out _).mono ?_
    rintro e w1 ⟨rfl, hb1⟩
    clear g0 g1 g2 g3 g4 g5 g6 g7
    obtain ⟨g0, g1, g2, g3, g4, g5, g6, g7⟩ := HG.out _ hb1
    go_wp2_with fail
    refine (HT.out _ (HX.out _ hb1) (HY.out _ hb1)).mono ?_
    rintro e w2 ⟨v1, i1, j1, v2, i2, j2, rfl, o1, o2, hb2⟩
    replace hb2 := bt hb1 hb2
    have hi1 : i1 ≤ 1048576 := by have := o1.len; have := HL1.out; omega
    have hi2 : i2 ≤ 1048576 := by have := o2.len; have := HL2.out; omega
    clear g0 g1 g2 g3 g4 g5 g6 g7 hb1
    obtain ⟨g0, g1, g2, g3, g4, g5, g6, g7⟩ := HG.out _ hb2
    go_wp2_with fail
    refine (specIsFamily_any s K p q y co v1 v2 i1 j1 i2 j2 xs ys _ (by omega) (o1.rd HF1.out) (by omega) (o2.rd HF2.out) (by omega)).mono ?_
    rintro e w3 ⟨rfl, hb3⟩
    replace hb3 := bt hb2 hb3
    clear g0 g1 g2 g3 g4 g5 g6 g7 hb2 o1 o2 hi1 hi2
    obtain ⟨g0, g1, g2, g3, g4, g5, g6, g7⟩ := HG.out _ hb3
    go_wp2_with fail
    refine (HT.out _ (HX.out _ hb3) (HY.out _ hb3)).mono ?_
    rintro e w4 ⟨b1, m1, d1, b2, m2, d2, rfl, o1, o2, hb4⟩
    replace hb4 := bt hb3 hb4
    have hm1 : m1 ≤ 1048576 := by have := o1.len; have := HL1.out; omega
    have hm2 : m2 ≤ 1048576 := by have := o2.len; have := HL2.out; omega
    clear g0 g1 g2 g3 g4 g5 g6 g7 hb3
    have hF4 := fam_new w4 s K p q y (.slice b1 m1 d1) co (.slice b2 m2 d2) 57
    have hal4 := Below.alloc (Below.refl w4.heap.size w4) (Nat.le_refl _) (.cells #[.string s, .int .i64 K, .int .i64 p, .int .i64 q, .int .i64 y, .slice b1 m1 d1, .int .i64 co, .slice b2 m2 d2] 57)
    have hlt4 : w4.heap.size < (w4.alloc (.cells #[.string s, .int .i64 K, .int .i64 p, .int .i64 q, .int .i64 y, .slice b1 m1 d1, .int .i64 co, .slice b2 m2 d2] 57)).heap.size := by simp
    have hb4' := bt hb4 hal4
    obtain ⟨g0, g1, g2, g3, g4, g5, g6, g7⟩ := HG.out _ hb4'
    obtain ⟨u0, u1, u2, u3, u4, u5, u6, u7⟩ := id hF4
    have r1 := (o1.keep hal4).rd HF1.out
    have r2 := (o2.keep hal4).rd HF2.out
    clear hb4 hal4 o1 o2
    go_wp2_with fail
    refine (implIsFamily_any s K p q y co b1 b2 m1 d1 m2 d2 xs ys _ (by omega) r1 (by omega) r2 (by omega)).mono ?_
    rintro e w5 ⟨rfl, hb5⟩
    have HB5 := Lib.hid (bt hb4' hb5)
    have HU5 := Lib.hid (hF4.to hlt4 hb5)
    have HR1 := Lib.hid (r1.to hb5)
    have HR2 := Lib.hid (r2.to hb5)
    have hs5 := Lib.hid (Nat.lt_of_lt_of_le hlt4 hb5.size)
    have HG5 := Lib.hid (HG.out _ HB5.out)
    clear g0 g1 g2 g3 g4 g5 g6 g7 u0 u1 u2 u3 u4 u5 u6 u7 hb5 hb4' hF4 hlt4 r1 r2
    generalize famB s K p q y co xs ys = B
    have hbb : (B != B) = false := by simp
    obtain ⟨g0, g1, g2, g3, g4, g5, g6, g7⟩ := HG5.out
    obtain ⟨u0, u1, u2, u3, u4, u5, u6, u7⟩ := HU5.out
    have HC := Lib.hid (fam_conj HG5.out HU5.out)
    have HK := Lib.hid (fun W (hW : Below w5.heap.size w5 W) => fam_conj (HG.out _ (bt HB5.out hW)) (HU5.out.to hs5.out hW))
    clear hd HZ
    go_wp2_with fail
    go_region_held3 (fun W => W.cell? ⟨w.heap.size, 0, none⟩ = some (.string s) ∧ W.cell? ⟨w.heap.size, 1, none⟩ = some (.int .i64 K) ∧ W.cell? ⟨w.heap.size, 2, none⟩ = some (.int .i64 p) ∧ W.cell? ⟨w.heap.size, 3, none⟩ = some (.int .i64 q) ∧ W.cell? ⟨w.heap.size, 4, none⟩ = some (.int .i64 y) ∧ W.cell? ⟨w.heap.size, 5, none⟩ = some (.slice a1 n1 k1) ∧ W.cell? ⟨w.heap.size, 6, none⟩ = some (.int .i64 co) ∧ W.cell? ⟨w.heap.size, 7, none⟩ = some (.slice a2 n2 k2) ∧ W.cell? ⟨w4.heap.size, 0, none⟩ = some (.string s) ∧ W.cell? ⟨w4.heap.size, 1, none⟩ = some (.int .i64 K) ∧ W.cell? ⟨w4.heap.size, 2, none⟩ = some (.int .i64 p) ∧ W.cell? ⟨w4.heap.size, 3, none⟩ = some (.int .i64 q) ∧ W.cell? ⟨w4.heap.size, 4, none⟩ = some (.int .i64 y) ∧ W.cell? ⟨w4.heap.size, 5, none⟩ = some (.slice b1 m1 d1) ∧ W.cell? ⟨w4.heap.size, 6, none⟩ = some (.int .i64 co) ∧ W.cell? ⟨w4.heap.size, 7, none⟩ = some (.slice b2 m2 d2)) (first | with_reducible exact HK.out _ hb7 | with_reducible exact HK.out _ hb6 | exact HC.out | go_keep) (first | (go_at_call 37; (with_reducible refine (HT.out _ (HX.out _ (bt HB5.out (by first | exact Below.refl _ _ | exact (Below.refl _ _).drew | exact ((Below.refl _ _).drew).drew))) (HY.out _ (bt HB5.out (by first | exact Below.refl _ _ | exact (Below.refl _ _).drew | exact ((Below.refl _ _).drew).drew)))).mono ?_); rintro e w6 ⟨c1, z1, t1, c2, z2, t2, rfl, o1, o2, hb6⟩; replace hb6 := bt (w := w5) (by first | exact Below.refl _ _ | exact (Below.refl _ _).drew | exact ((Below.refl _ _).drew).drew) hb6) | (go_at_call 39; refine (eqFamily_same s K p q y co b1 b2 c1 c2 m1 d1 m2 d2 z1 t1 z2 t2 xs ys _ (HR1.out.to hb6) (by omega) (HR2.out.to hb6) (by omega) (o1.rd HF1.out) (o2.rd HF2.out)).mono ?_; rintro e w7 ⟨rfl, hb7⟩; replace hb7 := bt hb6 hb7))
    all_goals go_wp2_with fail
    all_goals go_ret
    all_goals exact ⟨rfl, bt HAL.out (bt HB5.out (by first | exact hb7 | exact hb7.drew))⟩
  · rw [if_neg hsz] at HZ
    go_enter Try.func8, Try.ntmps8
    go_wp2_with fail
    refine (HZ.out _).mono ?_
    rintro e w1 ⟨rfl, hb1⟩
    go_wp2_with fail
    go_ret
    exact ⟨rfl, bt hal hb1⟩
end Go.Proofs.Ytckmenjbblgiiaa
