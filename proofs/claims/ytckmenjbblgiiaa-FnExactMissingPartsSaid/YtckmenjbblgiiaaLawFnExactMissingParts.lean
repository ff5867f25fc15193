/-
  The law FnExactMissingParts holds at every input.
  Conditions: none.
-/
import Derived.Test.YtckmenjbblgiiaaPartF
import Derived.Test.YtckmenjbblgiiaaOpenQ
set_option linter.unusedVariables false
namespace Go.Proofs.Ytckmenjbblgiiaa
open Go.RowKit Go.G8
theorem missP_fits (l : List PartV) : (∀ x ∈ missP l, fits .i64 x) ∧ (missP l).length ≤ 8 := by
  unfold missP
  split
  · rename_i h
    have hb := codeP_bd h
    have hm : hdP l ∈ l := by
      cases l with
      | nil => simp at hb
      | cons p l => exact List.mem_cons_self
    have := (okP_bd (List.all_eq_true.1 hb.2.1 _ hm)).1
    refine ⟨fun x hx => ?_, ?_⟩
    · unfold misK at hx
      obtain ⟨i, hi, rfl⟩ := List.mem_map.1 hx
      have := List.mem_range.1 (List.mem_filter.1 hi).1
      show -9223372036854775808 ≤ _ ∧ _ ≤ 9223372036854775807
      omega
    · have := misK_len l (hdP l).ct.toNat
      omega
  · exact ⟨fun x hx => by simp at hx, by simp⟩
theorem sumT_mem {l : List PartV} {p : PartV} (h : p ∈ l) : p.tx.size ≤ sumT l := by
  induction l with
  | nil => simp at h
  | cons q l ih =>
    have hs : sumT (q :: l) = q.tx.size + sumT l := by simp [sumT]
    rcases List.mem_cons.1 h with rfl | h
    · omega
    · have := ih h
      omega
set_option maxHeartbeats 1000000 in
theorem law_FnExactMissingParts (a : Option Addr) (n c : Nat) (l : List PartV) (w : World) (h : RdP w a n l) (hn : n ≤ 9223372036854775807) (hl : ∀ p ∈ l, partFits p) :
    Calls Try.prog 11 #[.slice a n c] w (Ret (.bool true) w) := by
  by_cases hs : n + sumT l ≤ 1048576
  · have hsz := szPartS_any a n c l w h hn hl
    rw [if_pos hs] at hsz
    have hd : decide ((1048576 : Int) - ((n + sumT l : Nat) : Int) < 0) = false := by simp; omega
    have hl2 : ∀ p ∈ l, partFits p ∧ p.tx.size ≤ 1048576 := fun p hp => ⟨hl p hp, by have := sumT_mem hp; omega⟩
    obtain ⟨mf, ml⟩ := missP_fits l
    have hn2 : n ≤ 1048576 := by omega
    go_enter Try.func11, Try.ntmps11
    go_wp2_with fail
    refine hsz.mono ?_
    rintro e W1 ⟨rfl, B1⟩
    have h1 := h.to B1
    go_wp2_with fail
    refine (toPartS_any a n c l _ h1 hn2).mono ?_
    rintro e W2 ⟨xa, xn, xc, rfl, X2, B2⟩
    obtain rfl : xn = n := by
      have e1 := X2.len
      have e2 := h.len
      rw [pflat_len] at e1
      omega
    have h2 := h1.to B2
    replace B1 := bt B1 B2
    have hW2 := B1.size
    go_wp2_with fail
    refine (specMissing_any xa xn xc l _ X2.rd hn2 hl2).mono ?_
    rintro e W3 ⟨B3, wa, wn, wc, rfl, O3⟩
    replace B1 := bt B1 B3
    have hw := O3.len
    have HR := Lib.hid (fun W (hb : Below w.heap.size w W) => h.to hb)
    replace O3 := O3.more hW2
    clear h1 h2 X2 B2 B3
    go_wp2_with fail
    refine (toPartS_any a xn c l _ (HR.out _ B1) hn2).mono ?_
    rintro e W4 ⟨ya, yn, yc, rfl, Y4, B4⟩
    obtain rfl : yn = xn := by
      have e1 := Y4.len
      have e2 := h.len
      rw [pflat_len] at e1
      omega
    have ap1 : Apart wa ya := fun g g1 g2 => by have := (O3.lt g g1).2; have := (Y4.lt g g2).1; omega
    replace Y4 := Y4.more B1.size
    replace O3 := O3.keep B4
    replace B1 := bt B1 B4
    clear B4
    go_wp2_with fail
    refine (implMissing_any ya yn yc l _ Y4.rd hn2 hl2).mono ?_
    rintro e W5 ⟨B5, ga, gn, gc, rfl, G5⟩
    have ap2 : Apart ga ya := fun g g1 g2 => by have := (G5.lt g g1).1; have := (Y4.lt g g2).2; omega
    have ap3 : Apart wa ga := fun g g1 g2 => by have := (O3.lt g g1).2; have := (G5.lt g g2).1; omega
    have hgn := G5.len
    replace G5 := G5.more B1.size
    replace O3 := O3.keep B5
    replace Y4 := Y4.keep B5
    replace B1 := bt B1 B5
    clear B5
    have hcc : (codeP l != codeP l) = false := by simp
    go_wp2_with fail
    refine (eqInt64S_same ga wa gn wn gc wc _ _ (G5.rd mf) (O3.rd mf) (by omega)).mono ?_
    rintro e W6 ⟨rfl, hq⟩
    replace hq := below_q hq
    replace G5 := G5.keep hq
    replace O3 := O3.keep hq
    replace Y4 := Y4.keep hq
    replace B1 := bt B1 hq
    clear hq
    go_wp2_with fail
    refine (toPartS_any a yn c l _ (HR.out _ B1) hn2).mono ?_
    rintro e W7 ⟨za, zn, zc, rfl, Z7, hq⟩
    obtain rfl : zn = yn := by
      have e1 := Z7.len
      have e2 := h.len
      rw [pflat_len] at e1
      omega
    replace G5 := G5.keep hq
    replace O3 := O3.keep hq
    replace Y4 := Y4.keep hq
    replace B1 := bt B1 hq
    clear hq
    go_wp2_with fail
    refine (eqPartS_same ya za zn yc zc l _ Y4.rd Z7.rd hn2).mono ?_
    rintro e W8 ⟨rfl, hq⟩
    replace G5 := G5.keep hq
    replace O3 := O3.keep hq
    replace Y4 := Y4.keep hq
    replace B1 := bt B1 hq
    clear hq Z7
    have hk0 : decide (1 + 4 * (zn : Int) < 0) = false := by simp; omega
    go_wp2_with fail
    refine (markPartS_any w.heap.size ya yc zn l _ Y4 hn2).mono ?_
    rintro e W9 ⟨rfl, hg⟩
    replace G5 := G5.sep hg ap2
    replace O3 := O3.sep hg ap1
    replace B1 := B1.grown hg B1.size (fun g e => (Y4.lt g e).1)
    clear hg Y4
    go_wp2_with (first | (go_at_call 30; refine (eqInt64S_same ga wa gn wn gc wc _ _ (G5.rd mf) (O3.rd mf) (by omega)).mono ?_; rintro e W10 ⟨rfl, hq⟩))
    replace hq := below_q hq
    replace G5 := G5.keep hq
    replace O3 := O3.keep hq
    replace B1 := bt B1 hq
    clear hq
    have hm1 : (1 + (gn : Int) != 1 + (gn : Int)) = false := by simp
    have hm2 : decide (1 + (gn : Int) < 0) = false := by simp; omega
    refine (markInt64S_any w.heap.size ga gn gc (missP l) 1 _ G5 (by omega) (by omega) (by omega)).mono ?_
    rintro e W11 ⟨rfl, M5, hg⟩
    replace O3 := O3.sep hg ap3
    replace B1 := B1.grown hg B1.size (fun g e => (G5.lt g e).1)
    clear hg G5
    go_wp2_with fail
    refine (heldInt64S_seq ga gn gc 1 _ (M5.rd (seqI_fits _ _ (by omega) (by omega))) (by omega) (by omega) (by omega)).mono ?_
    rintro e w' ⟨rfl, rfl⟩
    go_wp2_with fail
    refine (toPartS_any a zn c l _ (HR.out _ B1) hn2).mono ?_
    rintro e W12 ⟨ua, un, uc, rfl, U, hq⟩
    obtain rfl : un = zn := by
      have e1 := U.len
      have e2 := h.len
      rw [pflat_len] at e1
      omega
    replace M5 := M5.keep hq
    replace O3 := O3.keep hq
    replace B1 := bt B1 hq
    clear hq
    go_wp2_with fail
    refine (implMissing_any ua un uc l _ U.rd hn2 hl2).mono ?_
    rintro e W13 ⟨hq, ha, hn', hc', rfl, H5⟩
    replace M5 := M5.keep hq
    replace O3 := O3.keep hq
    replace B1 := bt B1 hq
    have hhn := H5.len
    clear hq U
    go_wp2_with fail
    refine (eqInt64S_same ha wa hn' wn hc' wc _ _ (H5.rd mf) (O3.rd mf) (by omega)).mono ?_
    rintro e W14 ⟨rfl, hq⟩
    replace hq := below_q hq
    replace M5 := M5.keep hq
    replace B1 := bt B1 hq
    clear hq
    go_wp2_with fail
    refine (heldInt64S_seq ga gn gc 1 _ (M5.rd (seqI_fits _ _ (by omega) (by omega))) (by omega) (by omega) (by omega)).mono ?_
    rintro e w' ⟨rfl, rfl⟩
    go_wp2_with fail
    go_ret
    exact ⟨rfl, B1⟩
  · have hsz := szPartS_any a n c l w h hn hl
    rw [if_neg hs] at hsz
    go_enter Try.func11, Try.ntmps11
    go_wp2_with fail
    refine hsz.mono ?_
    rintro e W1 ⟨rfl, B1⟩
    go_wp2_with fail
    go_ret
    exact ⟨rfl, B1⟩
end Go.Proofs.Ytckmenjbblgiiaa
