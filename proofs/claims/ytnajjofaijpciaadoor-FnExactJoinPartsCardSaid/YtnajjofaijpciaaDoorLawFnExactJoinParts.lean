/-
  The law FnExactJoinParts holds at every input.
  Conditions: none.
-/
import Derived.Test.YtnajjofaijpciaaDoorJoinB
import Derived.Test.YtnajjofaijpciaaDoorJoinE
import Derived.Test.YtnajjofaijpciaaDoorOpenQ
set_option linter.unusedVariables false
namespace Go.Proofs.YtnajjofaijpciaaDoor
open Go.RowKit Go.G8
theorem sumT_mem {l : List PartV} {p : PartV} (h : p ∈ l) : p.tx.size ≤ sumT l := by
  induction l with
  | nil => simp at h
  | cons q l ih =>
    have hs : sumT (q :: l) = q.tx.size + sumT l := by simp [sumT]
    rcases List.mem_cons.1 h with rfl | h
    · omega
    · have := ih h
      omega
set_option maxHeartbeats 1000000 in
theorem law_FnExactJoinParts (a : Option Addr) (n c : Nat) (l : List PartV) (w : World) (h : RdP w a n l) (hn : n ≤ 9223372036854775807) (hl : ∀ p ∈ l, partFits p) :
    Calls Tryd.prog 3 #[.slice a n c] w (Ret (.bool true) w) := by
  by_cases hs : n + sumT l ≤ 1048576
  · have hsz := szPartS_any a n c l w h hn hl
    rw [if_pos hs] at hsz
    have hd : decide ((1048576 : Int) - ((n + sumT l : Nat) : Int) < 0) = false := by simp; omega
    have hl2 : ∀ p ∈ l, partFits p ∧ p.tx.size ≤ 1048576 := fun p hp => ⟨hl p hp, by have := sumT_mem hp; omega⟩
    have hn2 : n ≤ 1048576 := by omega
    have HSp := Lib.hid (fun a c w (h : RdP w a n l) => specJoinParts_any a n c l w h hn2 hl2)
    have HIm := Lib.hid (fun a c w (h : RdP w a n l) => implJoinParts_any a n c l w h hn2 hl2)
    obtain ⟨R, hR⟩ : ∃ R, rJoin l = R := ⟨_, rfl⟩
    rw [hR] at HSp HIm
    obtain ⟨s, code⟩ := R
    have hne : (s.toList != s.toList) = false := by simp
    have hcc : (code != code) = false := by simp
    clear hR
    go_enter Tryd.func3, Tryd.ntmps3
    go_wp2_with fail
    refine hsz.mono ?_
    rintro e W1 ⟨rfl, B1⟩
    have h1 := h.to B1
    go_wp2_with fail
    refine (toPartS_any a n c l _ h1 hn2).mono ?_
    rintro e W2 ⟨xa, xn, xc, rfl, X2, B2⟩
    obtain rfl : xn = n := by
      have e1 := X2.len
      have e2 := h.len
      rw [pflat_len] at e1
      omega
    replace B1 := bt B1 B2
    go_wp2_with fail
    refine (HSp.out xa xc _ X2.rd).mono ?_
    rintro e W3 ⟨rfl, B3⟩
    replace B1 := bt B1 B3
    have HR := Lib.hid (fun W (hb : Below w.heap.size w W) => h.to hb)
    clear h1 X2 B2 B3
    go_wp2_with fail
    refine (toPartS_any a xn c l _ (HR.out _ B1) hn2).mono ?_
    rintro e W4 ⟨ya, yn, yc, rfl, Y4, B4⟩
    obtain rfl : yn = xn := by
      have e1 := Y4.len
      have e2 := h.len
      rw [pflat_len] at e1
      omega
    replace Y4 := Y4.more B1.size
    replace B1 := bt B1 B4
    clear B4
    go_wp2_with fail
    refine (HIm.out ya yc _ Y4.rd).mono ?_
    rintro e W5 ⟨rfl, B5⟩
    replace Y4 := Y4.keep B5
    replace B1 := bt B1 B5
    clear B5
    go_wp2_with fail
    refine (toPartS_any a yn c l _ (HR.out _ B1) hn2).mono ?_
    rintro e W7 ⟨za, zn, zc, rfl, Z7, hq⟩
    obtain rfl : zn = yn := by
      have e1 := Z7.len
      have e2 := h.len
      rw [pflat_len] at e1
      omega
    replace Y4 := Y4.keep hq
    replace B1 := bt B1 hq
    clear hq
    go_wp2_with fail
    refine (eqPartS_same ya za zn yc zc l _ Y4.rd Z7.rd hn2).mono ?_
    rintro e W8 ⟨rfl, hq⟩
    replace B1 := bt B1 hq
    clear hq Z7
    go_wp2_with fail
    go_ret
    exact ⟨rfl, B1⟩
  · have hsz := szPartS_any a n c l w h hn hl
    rw [if_neg hs] at hsz
    go_enter Tryd.func3, Tryd.ntmps3
    go_wp2_with fail
    refine hsz.mono ?_
    rintro e W1 ⟨rfl, B1⟩
    go_wp2_with fail
    go_ret
    exact ⟨rfl, B1⟩
end Go.Proofs.YtnajjofaijpciaaDoor
