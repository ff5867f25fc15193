/-
  Lists of parts: what the laws ask of them. Contracts: the size, the copy and the comparison of parts.
  Conditions: none.
-/
import Derived.Test.YtnajjofaijpciaaDoorSmallD
import Derived.Test.YtnajjofaijpciaaDoorMarkT
import Derived.Test.YtnajjofaijpciaaDoorRowsV
set_option linter.unusedVariables false
namespace Go.Proofs.YtnajjofaijpciaaDoor
open Go.RowKit Go.G8
structure PartV where
  ix : Int
  ct : Int
  pr : Int
  tx : ByteArray
def pCs (p : PartV) : List Value := [.int .i64 p.ix, .int .i64 p.ct, .int .i64 p.pr, .string p.tx]
def partFits (p : PartV) : Prop := fits .i64 p.ix ∧ fits .i64 p.ct ∧ fits .i64 p.pr ∧ p.tx.size ≤ 9223372036854775807
theorem pflat {l : List PartV} {k j : Nat} {p : PartV} (h : l[k]? = some p) (hj : j < 4) : (l.flatMap pCs)[k * 4 + j]? = (pCs p)[j]? := by
  induction l generalizing k with
  | nil => simp at h
  | cons q l ih =>
    rw [List.flatMap_cons]
    have hp : (pCs q).length = 4 := rfl
    cases k with
    | zero =>
      obtain rfl : q = p := by simpa using h
      rw [List.getElem?_append_left (by omega)]
      simp
    | succ k =>
      rw [List.getElem?_append_right (by omega), hp, show (k + 1) * 4 + j - 4 = k * 4 + j by omega]
      exact ih (by simpa using h)
theorem pflat_len (l : List PartV) : (l.flatMap pCs).length = l.length * 4 := by
  induction l with
  | nil => rfl
  | cons p l ih => rw [List.flatMap_cons, List.length_append, ih, List.length_cons]; show 4 + _ = _; omega
/-- The parts of a list that is read. -/
def RdP (w : World) (a : Option Addr) (n : Nat) (l : List PartV) : Prop := RdV 4 w a n (l.flatMap pCs)
theorem RdP.len {w : World} {a : Option Addr} {n : Nat} {l : List PartV} (h : RdP w a n l) : l.length = n := by
  have := RdV.len h
  rw [pflat_len] at this
  omega
theorem RdP.to {w w' : World} {a : Option Addr} {n : Nat} {l : List PartV} (h : RdP w a n l) (hb : Below w.heap.size w w') : RdP w' a n l := RdV.to h hb
theorem RdP.at_ {w : World} {a : Option Addr} {n k : Nat} {l : List PartV} {p : PartV} (h : RdP w a n l) (hk : l[k]? = some p) :
    ∃ b o, a = some ⟨b, o, none⟩ ∧ b < w.heap.size ∧ w.cell? ⟨b, o + k * 4, none⟩ = some (.int .i64 p.ix) ∧ w.cell? ⟨b, o + k * 4 + 1, none⟩ = some (.int .i64 p.ct) ∧ w.cell? ⟨b, o + k * 4 + 2, none⟩ = some (.int .i64 p.pr) ∧ w.cell? ⟨b, o + k * 4 + 3, none⟩ = some (.string p.tx) := by
  have hn := h.len
  have hk1 := (List.getElem?_eq_some_iff.1 hk).1
  obtain ⟨b, o, rfl, hb⟩ := RdV.form h (by omega) (by omega)
  have c := fun j (hj : j < 4) v (hv : (pCs p)[j]? = some v) => RdV.cell h (by omega) ((pflat hk hj).trans hv)
  exact ⟨b, o, rfl, hb, c 0 (by omega) _ rfl, c 1 (by omega) _ rfl, c 2 (by omega) _ rfl, c 3 (by omega) _ rfl⟩
/-- What a list of parts asks of a measure. -/
def sumT (l : List PartV) : Nat := (l.map (·.tx.size)).sum
theorem sumT_snoc (l : List PartV) (p : PartV) : sumT (l ++ [p]) = sumT l + p.tx.size := by simp [sumT]
theorem sumT_take (l : List PartV) (k : Nat) : sumT (l.take k) ≤ sumT l := by
  have h : l = l.take k ++ l.drop k := (List.take_append_drop k l).symm
  have h2 : sumT l = sumT (l.take k) + sumT (l.drop k) := by
    conv => lhs; rw [h]
    simp only [sumT, List.map_append, List.sum_append]
  omega
set_option maxHeartbeats 1000000 in
theorem szPart_any (i c p : Int) (s : ByteArray) (L : Int) (w : World) (hs : s.size ≤ 9223372036854775807) (hL : 0 ≤ L ∧ L ≤ 1048576) :
    Calls Tryd.prog 9 #[.agg #[.int .i64 i, .int .i64 c, .int .i64 p, .string s], .int .i64 L] w (Ret (.int .i64 (if (s.size : Int) ≤ L then L - s.size else -1)) w) := by
  have hal := Below.alloc (Below.refl w.heap.size w) (Nat.le_refl _) (.cells #[.int .i64 i, .int .i64 c, .int .i64 p, .string s] 32)
  by_cases h : (s.size : Int) ≤ L
  · rw [if_pos h]
    have d : decide (L - (s.size : Int) < 0) = false := by simp; omega
    go_enter Tryd.func9, Tryd.ntmps9
    go_wp2_with fail
    go_ret
    exact ⟨rfl, hal⟩
  · rw [if_neg h]
    have d : decide (L - (s.size : Int) < 0) = true := by simp; omega
    go_enter Tryd.func9, Tryd.ntmps9
    go_wp2_with fail
    go_ret
    exact ⟨rfl, hal⟩
set_option maxHeartbeats 1000000 in
theorem szPartS_any (a : Option Addr) (n c : Nat) (l : List PartV) (w : World) (h : RdP w a n l) (hn : n ≤ 9223372036854775807) (hl : ∀ p ∈ l, partFits p) :
    Calls Tryd.prog 4 #[.slice a n c, .int .i64 1048576] w (Ret (.int .i64 (if n + sumT l ≤ 1048576 then 1048576 - ((n + sumT l : Nat) : Int) else -1)) w) := by
  by_cases hbig : n ≤ 1048576
  · have d0 : decide ((1048576 : Int) - n < 0) = false := by simp; omega
    have H := Lib.hid (fun W (hb : Below w.heap.size w W) => h.to hb)
    have HL := Lib.hid h.len
    clear h
    generalize hR : (if n + sumT l ≤ 1048576 then 1048576 - ((n + sumT l : Nat) : Int) else -1) = R
    have HR := Lib.hid hR
    clear hR
    go_enter Tryd.func4, Tryd.ntmps4
    go_wp2_with fail
    go_loopw [1, 5] (fun v i wr => ∃ j : Nat, j ≤ n ∧ i = .int .i64 (j : Int) ∧ v = .int .i64 (1048576 - ((n + sumT (l.take j) : Nat) : Int)) ∧ n + sumT (l.take j) ≤ 1048576 ∧ Below w.heap.size w wr) (fun _ i _ => n - (intOf i).toNat)
    case atStart => exact ⟨0, by omega, rfl, by simp [sumT], by simp [sumT]; omega, Below.refl _ _⟩
    case round =>
      obtain ⟨j, hj, rfl, rfl, hle, hB⟩ := hrel
      by_cases hlt : j < n
      · have hq : l[j]? = some (l[j]'(by rw [HL.out]; exact hlt)) := List.getElem?_eq_getElem _
        have htk : l.take (j + 1) = l.take j ++ [l[j]'(by rw [HL.out]; exact hlt)] := by rw [List.take_add_one, hq]; rfl
        have hfit := hl _ (List.mem_of_getElem? hq)
        have hsum : sumT (l.take (j + 1)) = sumT (l.take j) + (l[j]'(by rw [HL.out]; exact hlt)).tx.size := by rw [htk, sumT_snoc]
        have htt := sumT_take l (j + 1)
        generalize l[j]'(by rw [HL.out]; exact hlt) = q at *
        obtain ⟨b, o, rfl, -, c0, c1, c2, c3⟩ := (H.out wr hB).at_ hq
        have hl1 : (0 : Int) ≤ (j : Int) := by omega
        have hl2 : (j : Int) < (n : Int) := by omega
        obtain ⟨hf1, hf2, hf3, hf4⟩ := hfit
        have HZ := szPart_any q.ix q.ct q.pr q.tx (1048576 - ((n + sumT (l.take j) : Nat) : Int)) wr hf4 (by omega)
        by_cases hfit2 : n + sumT (l.take (j + 1)) ≤ 1048576
        · rw [if_pos (by omega)] at HZ
          have d1 : decide ((1048576 - ((n + sumT (l.take j) : Nat) : Int)) - (q.tx.size : Int) < 0) = false := by simp; omega
          go_wp2_with fail
          refine HZ.mono ?_
          rintro e w1 ⟨rfl, hb1⟩
          go_wp2_with fail
          go_roundw
          case rel => exact ⟨j + 1, by omega, by go_num, congrArg (fun z => Value.int .i64 z) (by omega), hfit2, bt hB hb1⟩
          case measure => simp [intOf]; omega
        · rw [if_neg (by omega)] at HZ
          go_wp2_with fail
          refine HZ.mono ?_
          rintro e w1 ⟨rfl, hb1⟩
          go_wp2_with fail
          go_ret
          have hr := HR.out
          rw [if_neg (by omega)] at hr
          subst hr
          exact ⟨rfl, bt hB hb1⟩
      · obtain rfl : j = n := by omega
        have ht : l.take j = l := List.take_of_length_le (by rw [HL.out]; exact Nat.le_refl _)
        rw [ht] at hle ⊢
        have hr := HR.out
        rw [if_pos hle] at hr
        subst hr
        go_wp2_with fail
        go_ret
        exact ⟨rfl, hB⟩
  · have d0 : decide ((1048576 : Int) - n < 0) = true := by simp; omega
    rw [if_neg (by omega)]
    go_enter Tryd.func4, Tryd.ntmps4
    go_wp2_with fail
    go_ret
    exact ⟨rfl, Below.refl _ _⟩
end Go.Proofs.YtnajjofaijpciaaDoor
