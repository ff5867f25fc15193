/-
  The law FnExactPenaltyParts holds at every input.
  Conditions: none.
-/
import Derived.Test.YtckmenjbblgiiaaPenF
set_option linter.unusedVariables false
namespace Go.Proofs.Ytckmenjbblgiiaa
open Go.RowKit Go.G8
theorem keepg {W W' : World} {b : Nat} {u0 u1 u2 : Value} (hb : Below W.heap.size W W') (h : b < W.heap.size ∧ W.cell? ⟨b, 0, none⟩ = some u0 ∧ W.cell? ⟨b, 1, none⟩ = some u1 ∧ W.cell? ⟨b, 2, none⟩ = some u2) : b < W'.heap.size ∧ W'.cell? ⟨b, 0, none⟩ = some u0 ∧ W'.cell? ⟨b, 1, none⟩ = some u1 ∧ W'.cell? ⟨b, 2, none⟩ = some u2 := by
  obtain ⟨h1, h2, h3, h4⟩ := keep3 hb h.1 h.2.1 h.2.2.1 h.2.2.2
  exact ⟨h4, h1, h2, h3⟩
def heldG (b b4 : Nat) (r c : Int) (s s4 : Value) (W : World) : Prop :=
  W.cell? ⟨b, 0, none⟩ = some (.int .i64 r) ∧ W.cell? ⟨b, 1, none⟩ = some (.int .i64 c) ∧ W.cell? ⟨b, 2, none⟩ = some s ∧ W.cell? ⟨b4, 0, none⟩ = some (.int .i64 r) ∧ W.cell? ⟨b4, 1, none⟩ = some (.int .i64 c) ∧ W.cell? ⟨b4, 2, none⟩ = some s4
theorem heldG_keep {b b4 : Nat} {r c : Int} {s s4 : Value} {V W : World} (h1 : b < V.heap.size) (h2 : b4 < V.heap.size) (h : heldG b b4 r c s s4 V) (hb : Below V.heap.size V W) : heldG b b4 r c s s4 W := by
  obtain ⟨a1, a2, a3, a4, a5, a6⟩ := h
  have e1 := (keepg hb ⟨h1, a1, a2, a3⟩).2
  have e2 := (keepg hb ⟨h2, a4, a5, a6⟩).2
  exact ⟨e1.1, e1.2.1, e1.2.2, e2⟩

theorem penParts_ok (r c : Int) (xs : List Int) : (rPenParts r c xs).1.length ≤ 3 ∧ ∀ x ∈ (rPenParts r c xs).1, fits .i64 x := by
  by_cases hok : gridB r c xs = true ∧ knownB xs = true
  · rw [pen_yes hok.1 hok.2]
    refine ⟨Nat.le_refl _, fun x hx => ?_⟩
    obtain ⟨h1, h2, h3, h4⟩ := gridB_facts hok.1
    have hz := zo_of (cells_yes hok.1) hok.2
    have b1 := runsP_le (R := r.toNat) (C := c.toNat) (by omega) (by omega) xs
    have b2 := squaresP_le (R := r.toNat) (C := c.toNat) (by omega) (by omega) xs
    have hp : 1 ≤ r * c := by
      have := Int.mul_le_mul h1.1 h2.1 (by omega) (by omega)
      omega
    have b3 := lastP_bd hz rfl ⟨by omega, by omega⟩
    rw [h4] at b3
    simp only [rParts, List.mem_cons, List.not_mem_nil, or_false] at hx
    show -9223372036854775808 ≤ x ∧ x ≤ 9223372036854775807
    rcases hx with rfl | rfl | rfl <;> omega
  · rw [(pen_no hok).1]
    exact ⟨Nat.zero_le _, fun x hx => by simp at hx⟩
theorem markGrid_any {E : TypeId} (B : Nat) (r q : Int) (a : Option Addr) (n c : Nat) (xs : List Int) (k : Int) (w : World) (ho : Ow .i64 E B w a n c xs) (hn : n ≤ 1000000000) (h0 : 0 ≤ k) (h1 : k ≤ 1000000000000) :
    Calls Try.prog 31 #[.agg #[.int .i64 r, .int .i64 q, .slice a n c], .int .i64 k] w fun e w' => e = .returned (.int .i64 (k + n)) ∧ Ow .i64 E B w' a n c (seqI k n) ∧ w.grownBy w' (blk a) := by
  obtain ⟨hw0, hlt0, c0, c1, c2⟩ := grid_start w (.int .i64 r) (.int .i64 q) (.slice a n c) 41
  have ho0 := ho.keep hw0
  go_enter Try.func31, Try.ntmps31
  go_wp2_with fail
  refine (markInt64S_any B a n c xs k _ ho0 hn h0 h1).mono ?_
  rintro e w1 ⟨rfl, hm, hg⟩
  go_wp2_with fail
  go_ret
  have hs := hw0.size
  exact ⟨rfl, hm, ⟨hg.os.trans hw0.os, hg.tape.trans hw0.tape, hg.output.trans hw0.output, Nat.le_trans hw0.size hg.size, fun j hj hne => (hg.block j (by omega) hne).trans (hw0.block j hj)⟩⟩
theorem under_mark {B : Nat} {w0 w w' : World} {a : Option Addr} (hb : Below B w0 w) (hg : w.grownBy w' (blk a)) (hB : B ≤ w.heap.size) (h : ∀ g, blk a = some g → B ≤ g) : Below B w0 w' := hb.grown hg hB h
set_option maxHeartbeats 1000000 in
theorem law_FnExactPenaltyParts (r c : Int) (a : Option Addr) (n k : Nat) (xs : List Int) (w : World) (hr : fits .i64 r) (hc : fits .i64 c) (h : Rd .i64 w a n xs) (hk : n ≤ k ∧ k ≤ maxLen) :
    Calls Try.prog 6 #[.agg #[.int .i64 r, .int .i64 c, .slice a n k]] w (Ret (.bool true) w) := by
  have hn : n ≤ 9223372036854775807 := by have := hk.2; unfold maxLen at this; omega
  obtain ⟨hw0, hlt0, c0, c1, c2⟩ := grid_start w (.int .i64 r) (.int .i64 c) (.slice a n k) 38
  have HZ := Lib.hid (fun w => szGrid_any r c a n k w hn)
  by_cases hs : n ≤ 1048576
  · rw [if_pos hs] at HZ
    have hd : decide ((1048576 : Int) - n < 0) = false := by simp; omega
    have HG := Lib.hid (fun w h => toGrid_any r c a n k xs w h hs)
    have HX := Lib.hid h
    have hR := h.to hw0
    go_enter Try.func6, Try.ntmps6
    go_wp2_with fail
    refine (HZ.out _).mono ?_
    rintro e w1 ⟨rfl, hb1⟩
    have hB1 := bt hw0 hb1
    have hC1 := Lib.hid (keepg hb1 ⟨hlt0, c0, c1, c2⟩)
    have hR1 := hR.to hb1
    clear hb1 hw0 hlt0 c0 c1 c2 hR
    obtain ⟨d0, d1, d2, d3⟩ := hC1.out
    go_wp2_with fail
    refine (HG.out _ hR1).mono ?_
    rintro e w2 ⟨a2, n2, k2, rfl, ho2, hb2⟩
    have hB2 := bt hB1 hb2
    have hC2 := Lib.hid (keepg hb2 hC1.out)
    have hR2 := hR1.to hb2
    have hn2 : n2 ≤ 1048576 := by have := ho2.len; have := h.len; omega
    clear d0 d1 d2 d3 hB1 hR1 hC1
    obtain ⟨d0, d1, d2, d3⟩ := hC2.out
    clear hb2
    have hL := penParts_ok r c xs
    have HSp := Lib.hid (fun W h => specPenaltyParts_any r c a2 n2 k2 xs W h (by omega) ho2.cap)
    have HIm := Lib.hid (fun b m d W h hm hd => implPenaltyParts_any r c b m d xs W h hm hd)
    generalize (rPenParts r c xs).1 = L at hL HSp HIm
    generalize (rPenParts r c xs).2 = K at hL HSp HIm
    obtain ⟨hL1, hL2⟩ := hL
    have hKK : (K != K) = false := by simp
    go_wp2_with fail
    refine (HSp.out _ (ho2.rd h.2)).mono ?_
    rintro e w3 ⟨aS, ns, ks, rfl, os, hb3⟩
    have hns : ns ≤ 3 := by have := os.len; omega
    have hB3 := bt hB2 hb3
    have hC3 := Lib.hid (keepg hb3 hC2.out)
    have hR3 := hR2.to hb3
    clear hb3 hB2 d0 d1 d2 d3 hR2 hC2 ho2 HSp
    obtain ⟨d0, d1, d2, d3⟩ := hC3.out
    go_wp2_with fail
    refine (HG.out _ hR3).mono ?_
    rintro e w4 ⟨a4, n4, k4, rfl, ho4, hb4⟩
    have ap_s4 := apart_new os ho4
    replace os := os.keep hb4
    have hB4 := bt hB3 hb4
    have hC4 := Lib.hid (keepg hb4 hC3.out)
    have hR4 := hR3.to hb4
    have hn4 : n4 ≤ 1048576 := by have := ho4.len; have := h.len; omega
    have HQ : Below w3.heap.size w3 w4 := hb4
    clear d0 d1 d2 d3
    obtain ⟨d0, d1, d2, d3⟩ := hC4.out
    clear hb4
    obtain ⟨s1, s2, s3, s4, s5⟩ := grid_start w4 (.int .i64 r) (.int .i64 c) (.slice a4 n4 k4) 41
    have hlt4 := ho4.lt
    replace HQ := HQ.trans (s1.mono HQ.size)
    replace hB4 := bt hB4 s1
    replace hC4 := Lib.hid (keepg s1 hC4.out)
    replace hR4 := hR4.to s1
    replace os := os.keep s1
    have hw45 := HQ.size
    have hX4 := Lib.hid (show _ ∧ _ ∧ _ ∧ _ from ⟨s2, s3, s4, s5⟩)
    have hcap4 := ho4.cap
    replace ho4 := ho4.keep s1
    clear d0 d1 d2 d3 s1 s2 s3 s4 s5
    obtain ⟨d0, d1, d2, d3⟩ := hC4.out
    obtain ⟨q0, q1, q2, q3⟩ := hX4.out
    go_wp2_with fail
    refine (HIm.out _ _ _ _ (ho4.rd h.2) (by omega) hcap4).mono ?_
    rintro e w5 ⟨ai, ni, ki, rfl, oi, hb5⟩
    have hni : ni ≤ 3 := by have := oi.len; omega
    have ap_si := apart_new os oi
    have ap_4i := apart_new ho4 oi
    replace os := os.keep hb5
    have ho5 := ho4.keep hb5
    have hB5 := bt hB4 hb5
    have HQ5 := HQ.trans (hb5.mono HQ.size)
    have hC5 := Lib.hid (keepg hb5 hC4.out)
    have hX5 := Lib.hid (keepg hb5 hX4.out)
    have hR5 := hR4.to hb5
    clear hb5 hB4 HQ d0 d1 d2 d3 q0 q1 q2 q3 hR4 hC4 hX4 ho4
    obtain ⟨d0, d1, d2, d3⟩ := hC5.out
    obtain ⟨q0, q1, q2, q3⟩ := hX5.out
    go_wp2_with fail
    refine (eqInt64S_same ai aS ni ns ki ks L _ (oi.rd hL2) (os.rd hL2) (by omega)).mono ?_
    rintro e w6 ⟨rfl, hq⟩
    replace hq := below_q hq
    have os6 := os.keep hq
    have oi6 := oi.keep hq
    have ho6 := ho5.keep hq
    have hB6 := bt hB5 hq
    have HQ6 := HQ5.trans (hq.mono HQ5.size)
    have hC6 := Lib.hid (keepg hq hC5.out)
    have hX6 := Lib.hid (keepg hq hX5.out)
    have hR6 := hR5.to hq
    clear hq hB5 HQ5 d0 d1 d2 d3 q0 q1 q2 q3 hR5 hC5 hX5 ho5 os oi
    obtain ⟨d0, d1, d2, d3⟩ := hC6.out
    obtain ⟨q0, q1, q2, q3⟩ := hX6.out
    have HS5 := Lib.hid (show heldG w.heap.size w4.heap.size r c (.slice a n k) (.slice a4 n4 k4) w6 from ⟨d1, d2, d3, q1, q2, q3⟩)
    have HK := Lib.hid (fun W (hW : Below w6.heap.size w6 W) => heldG_keep hC6.out.1 hX6.out.1 HS5.out hW)
    have HN := Lib.hid h.len
    have HF := Lib.hid h.2
    clear d0 d1 d2 d3 q0 q1 q2 q3 h HX
    have HB5 := Lib.hid hB6
    have HR5 := Lib.hid hR6
    have HO5 := Lib.hid ho6
    have HQ6h := Lib.hid HQ6
    have HOS := Lib.hid os6
    have HOI := Lib.hid oi6
    clear hB6 hR6 ho6 HQ6 os6 oi6
    go_wp2_with fail
    go_region_held3 (fun W => W.cell? ⟨w.heap.size, 0, none⟩ = some (.int .i64 r) ∧ W.cell? ⟨w.heap.size, 1, none⟩ = some (.int .i64 c) ∧ W.cell? ⟨w.heap.size, 2, none⟩ = some (.slice a n k) ∧ W.cell? ⟨w4.heap.size, 0, none⟩ = some (.int .i64 r) ∧ W.cell? ⟨w4.heap.size, 1, none⟩ = some (.int .i64 c) ∧ W.cell? ⟨w4.heap.size, 2, none⟩ = some (.slice a4 n4 k4)) (first | exact HS5.out | exact HK.out _ hb6 | exact HK.out _ hb7 | go_keep) (first | (go_at_call 25; refine (HG.out _ (HR5.out.to (by first | exact Below.refl _ _ | exact (Below.refl _ _).drew | exact ((Below.refl _ _).drew).drew))).mono ?_; rintro e w7 ⟨a6, n6, k6, rfl, ho7, hb6⟩; replace hb6 := bt (w := w6) (by first | exact Below.refl _ _ | exact (Below.refl _ _).drew | exact ((Below.refl _ _).drew).drew) hb6) | (go_at_call 27; refine (eqGrid_same r c a4 a6 n4 n6 k4 k6 xs _ ((HO5.out.rd HF.out).to (bt hb6 (by first | exact Below.refl _ _ | exact (Below.refl _ _).drew | exact ((Below.refl _ _).drew).drew))) ((ho7.keep (by first | exact Below.refl _ _ | exact (Below.refl _ _).drew | exact ((Below.refl _ _).drew).drew)).rd HF.out) (by omega)).mono ?_; rintro e w8 ⟨rfl, hb7⟩; replace hb7 := bt (bt hb6 (by first | exact Below.refl _ _ | exact (Below.refl _ _).drew | exact ((Below.refl _ _).drew).drew)) hb7))
    have os8 := HOS.out.keep hb7
    have oi8 := HOI.out.keep hb7
    have ho8 := HO5.out.keep hb7
    have hB8 := bt HB5.out hb7
    have HQ8 := HQ6h.out.trans (hb7.mono HQ6h.out.size)
    have hR8 := HR5.out.to hb7
    have hX8 := Lib.hid (keepg hb7 hX6.out)
    obtain ⟨q0, q1, q2, q3⟩ := hX8.out
    clear HB5 HR5 HO5 HQ6h HOS HOI hX6 HS5 HK
    go_wp2_with fail
    refine (markGrid_any _ r c a4 n4 k4 xs 1 _ ho8 (by omega) (by omega) (by omega)).mono ?_
    rintro e w9 ⟨rfl, -, hg9⟩
    have hle3 := HQ8.size
    have hB3s := hB3.size
    have os9 := os8.sep hg9 ap_s4
    have oi9 := oi8.sep hg9 (fun g x y => ap_4i g y x)
    have HQ9 := under_mark HQ8 hg9 hle3 (fun g e => (hlt4 g e).1)
    have hB9 := under_mark hB8 hg9 (by omega) (fun g e => by have := (hlt4 g e).1; omega)
    clear os8 oi8 ho8 hB8 HQ8 hR8 q0 q1 q2 q3 hX8 hg9 hle3
    go_wp2_with fail
    refine (eqInt64S_same ai aS ni ns ki ks L _ (oi9.rd hL2) (os9.rd hL2) (by omega)).mono ?_
    rintro e w10 ⟨rfl, hq⟩
    replace hq := below_q hq
    have os10 := os9.keep hq
    have oi10 := oi9.keep hq
    have hB10 := bt hB9 hq
    have HQ10 := HQ9.trans (hq.mono HQ9.size)
    clear hq os9 oi9 hB9 HQ9
    go_wp2_with fail
    refine (markInt64S_any _ ai ni ki L 1 _ oi10 (by omega) (by omega) (by omega)).mono ?_
    rintro e w11 ⟨rfl, oi11, hg11⟩
    have os11 := os10.sep hg11 ap_si
    have hli := oi10.lt
    have hle3 := HQ10.size
    have HQ11 := under_mark HQ10 hg11 hle3 (fun g e => (by have := (hli g e).1; have := hw45; omega))
    have hB11 := under_mark hB10 hg11 (by omega) (fun g e => (by have := (hli g e).1; have := hw45; omega))
    clear hg11 os10 oi10 hB10 HQ10 hli
    have hC11 := Lib.hid (keepg HQ11 hC3.out)
    have hR11 := Lib.hid (hR3.to HQ11)
    clear HQ11 hle3
    obtain ⟨d0, d1, d2, d3⟩ := hC11.out
    go_wp2_with fail
    refine (heldInt64S_seq ai ni ki 1 _ (oi11.rd (seqI_fits 1 ni (by omega) (by omega))) (by omega) (by omega) (by omega)).mono ?_
    rintro e w' ⟨rfl, rfl⟩
    go_wp2_with fail
    refine (HG.out _ hR11.out).mono ?_
    rintro e w12 ⟨a9, n9, k9, rfl, ho9, hb12⟩
    have hn9 : n9 ≤ 1048576 := by have e1 := ho9.len; have e2 := HN.out; omega
    have os12 := os11.keep hb12
    have oi12 := oi11.keep hb12
    have hB12 := bt hB11 hb12
    clear hb12 os11 oi11 hB11 d0 d1 d2 d3
    go_wp2_with fail
    refine (HIm.out _ _ _ _ (ho9.rd HF.out) (by omega) ho9.cap).mono ?_
    rintro e w13 ⟨ah, nh, kh, rfl, oh, hb13⟩
    have os13 := os12.keep hb13
    have oi13 := oi12.keep hb13
    have hB13 := bt hB12 hb13
    clear hb13 os12 oi12 hB12 ho9
    go_wp2_with fail
    refine (eqInt64S_same ah aS nh ns kh ks L _ (oh.rd hL2) (os13.rd hL2) (by have := oh.len; omega)).mono ?_
    rintro e w14 ⟨rfl, hq⟩
    replace hq := below_q hq
    have oi14 := oi13.keep hq
    have hB14 := bt hB13 hq
    clear hq os13 oi13 hB13 oh
    go_wp2_with fail
    refine (heldInt64S_seq ai ni ki 1 _ (oi14.rd (seqI_fits 1 ni (by omega) (by omega))) (by omega) (by omega) (by omega)).mono ?_
    rintro e w' ⟨rfl, rfl⟩
    go_wp2_with fail
    go_ret
    exact ⟨rfl, hB14⟩
  · rw [if_neg hs] at HZ
    go_enter Try.func6, Try.ntmps6
    go_wp2_with fail
    refine (HZ.out _).mono ?_
    rintro e w1 ⟨rfl, hb1⟩
    have hB := bt hw0 hb1
    go_wp2_with fail
    go_ret
    exact ⟨rfl, hB⟩
end Go.Proofs.Ytckmenjbblgiiaa

