/-
  The law FnBitsAppended holds at every input.
  Conditions: none.
-/
import Derived.Test.YtagdkaigdehohaaDrawC
import Derived.Test.YtagdkaigdehohaaBitLaws
import Derived.Test.YtagdkaigdehohaaLib
set_option linter.unusedVariables false
namespace Go.Proofs.Ytagdkaigdehohaa
open Go.RowKit Go.G8
theorem rd_take {K : IntKind} {w : World} {a : Option Addr} {n k : Nat} {xs : List Int} (h : Rd K w a n xs) (hk : k ≤ n) : Rd K w a k (xs.take k) := by
  have hl := h.len
  refine ⟨⟨by simp [ints]; omega, fun hk0 => ?_⟩, fun x hx => h.2 x (List.mem_of_mem_take hx)⟩
  obtain ⟨ad, e, hb, hc⟩ := h.1.2 (by omega)
  refine ⟨ad, e, hb, fun j u hj => hc j u ?_⟩
  have : j < k := by
    have := (List.getElem?_eq_some_iff.1 hj).1
    simp [ints] at this
    omega
  rw [← hj]
  simp [ints, List.getElem?_take, this]
set_option maxHeartbeats 1000000 in
set_option maxRecDepth 20000 in
theorem law_FnBitsAppended (a : Option Addr) (n c : Nat) (xs : List Int) (w : World) (h : Rd .u8 w a n xs) :
    Calls Try.prog 12 #[.slice a n c] w (Ret (.bool true) w) := by
  by_cases hbig : 4096 < n
  · go_enter Try.func12, Try.ntmps12
    go_wp2_with fail
    refine (big_any a n c _).mono ?_
    rw [decide_eq_true (by omega)]
    rintro e w1 ⟨rfl, rfl⟩
    go_wp2_with fail
    go_ret
    exact ⟨rfl, Below.refl _ _⟩
  · have hn : n ≤ 4096 := by omega
    go_enter Try.func12, Try.ntmps12
    go_wp2_with fail
    refine (big_any a n c _).mono ?_
    rw [decide_eq_false (by omega)]
    rintro e w1 ⟨rfl, rfl⟩
    go_wp2_with fail
    refine (drawAppendBits_any a n c xs _ h hn).mono ?_
    rintro e w1 ⟨a1, n1, c1, ys, v, wd, rfl, hn1, hfy, hv, hwd, ho1, hb1⟩
    clear hbig h
    have hR1 := ho1.rd hfy
    have hl1 := ho1.len
    have hok := rAppendBits_ok ys v wd
    have HL := Lib.hid (append_law (xs := ys) (v := v) (wd := wd))
    obtain ⟨rr, hrr⟩ : ∃ rr, rAppendBits ys v wd = rr := ⟨_, rfl⟩
    rw [hrr] at hok HL
    go_wp2_with fail
    refine (implAppendBits_any a1 n1 c1 ys v wd _ hR1 (by omega) hv hwd).mono ?_
    rw [hrr]
    rintro e w2 ⟨a2, n2, c2, rfl, ho2, hb2⟩
    have hR1' := hR1.to hb2
    have hB2 := bt hb1 hb2
    have hn2 : n2 ≤ 1000000 := by have := ho2.len; omega
    have hcap := ho2.cap
    clear hb1 hb2 hR1 ho1
    go_wp2_with fail
    refine (specAppendBits_any a1 n1 c1 ys v wd _ hR1' (by omega) hv hwd).mono ?_
    rw [hrr]
    rintro e w3 ⟨a3, n3, c3, rfl, ho3, hb3⟩
    have hR1 := hR1'.to hb3
    have hB3 := bt hB2 hb3
    have hR2 := (ho2.keep hb3).rd hok.2
    have hR3 := ho3.rd hok.2
    clear hb3 hB2 hR1' ho2 ho3 hrr
    obtain ⟨zs, cd⟩ := rr
    have hcc : (cd != cd) = false := by simp
    go_wp2_with fail
    refine (likeInts_same a2 a3 n2 n3 c2 c3 zs _ hR2 hR3 (by omega)).mono ?_
    rintro e w4 ⟨rfl, hq4⟩
    have hb4 := below_q hq4
    have hB4 := bt hB3 hb4
    replace hR1 := hR1.to hb4
    replace hR2 := hR2.to hb4
    clear hb4 hB3 hR3 hq4
    by_cases h0 : cd = 0
    · subst h0
      obtain ⟨q1, q2, q3⟩ := HL.out rfl
      have hz2 := hR2.len
      have hT := rd_take hR2 (k := n1) (by omega)
      rw [← hl1, q2] at hT
      rw [hl1] at hT
      rw [hl1] at q1
      go_wp2_with fail
      refine (implNumberAt_any a2 n2 c2 zs n1 wd _ hR2 (by omega) hcap (by omega) hwd).mono ?_
      rw [q1]
      rintro e w5 ⟨rfl, rfl⟩
      have hvv : (v == v) = true := by simp
      have b1 : (n1 : Int) ≤ (c2 : Int) := by omega
      have b2 : (0 : Int) ≤ (n1 : Int) := by omega
      clear q1 q2 q3
      go_wp2_with fail
      refine (likeInts_same a2 a1 n1 n1 c2 c1 ys _ hT hR1 (by omega)).mono ?_
      rintro e w6 ⟨rfl, hq6⟩
      have hB6 := bt hB4 (below_q hq6)
      go_wp2_with fail
      go_ret
      exact ⟨rfl, hB6⟩
    · have hd : (cd != 0) = true := by rw [bne_iff_ne]; exact h0
      clear h0
      go_wp2_with fail
      go_ret
      exact ⟨rfl, hB4⟩
end Go.Proofs.Ytagdkaigdehohaa
