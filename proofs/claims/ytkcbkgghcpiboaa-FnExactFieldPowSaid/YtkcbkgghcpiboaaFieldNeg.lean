/-
  Contracts: the negative of an element, by the reference and by the program.
  Conditions: none.
-/
import Derived.Test.YtkcbkgghcpiboaaElemB
set_option linter.unusedVariables false
namespace Go.Proofs.Ytkcbkgghcpiboaa
open Go.RowKit Go.G8
def negR (p q a : Int) : Int := if q = 1 then (p - a) % p else a
def rNeg (p q y a : Int) : Int × Int := if codeF p q y [a] = 0 then (negR p q a, 0) else (0, codeF p q y [a])
theorem codeF_zero {p q y a : Int} (h : codeF p q y [a] = 0) : fieldB p q y = true ∧ 0 ≤ a ∧ a ≤ fsize p q - 1 := by
  unfold codeF at h
  split at h
  · rename_i h1
    split at h
    · rename_i h2
      simp only [allF, List.all_cons, List.all_nil, Bool.and_true, inF, decide_eq_true_eq] at h2
      exact ⟨h1, h2⟩
    · omega
  · omega
theorem rd_one (w : World) (T : TypeId) (a : Int) (ha : -9223372036854775808 ≤ a ∧ a ≤ 9223372036854775807) : Rd .i64 (w.alloc (.cells #[.int .i64 a] T)) (some ⟨w.heap.size, 0, none⟩) 1 [a] := by
  have h := Ow.lit (K := .i64) (E := T) (xs := [a]) (B := w.heap.size) w (Nat.le_refl _) (by simp)
  exact h.rd (fun x hx => by simp at hx; subst hx; exact ha)
theorem l02Neg_any (p q y a : Int) (w : World) (h : fieldB p q y = true) (ha : 0 ≤ a ∧ a ≤ fsize p q - 1) :
    Calls Try.prog 61 #[.agg #[.int .i64 p, .int .i64 q, .int .i64 y], .int .i64 a] w (RetB (.int .i64 (negR p q a)) w) := by
  obtain ⟨ha1, ha2⟩ := ha
  rcases field_cases h with ⟨rfl, h1, h2, -⟩ | ⟨P, rfl, rfl, hP, -⟩
  · have hs : fsize p 1 = p := rfl
    rw [hs] at ha2
    have hn : negR p 1 a = (p - a) % p := rfl
    rw [hn]
    clear hs hn h
    go_enter Try.func61, Try.ntmps61
    go_wp2
    go_ret
    exact ⟨rfl, Below.alloc (Below.refl _ _) (Nat.le_refl _) _⟩
  · have hn : negR 2 P a = a := by unfold negR; rw [if_neg (by omega)]
    have hb : ((P : Int) == 1) = false := by rw [beq_eq_false_iff_ne]; omega
    rw [hn]
    clear hn h ha2
    go_enter Try.func61, Try.ntmps61
    go_wp2
    go_ret
    exact ⟨rfl, Below.alloc (Below.refl _ _) (Nat.le_refl _) _⟩
theorem calcNeg (g : Nat) (p q y a : Int) {E L : Nat → Int} (w : World) (h : fieldB p q y = true) (ha : 0 ≤ a ∧ a ≤ fsize p q - 1) (ht : Tab 60 w g (!decide (q = 1)) (fsize p q) E L) :
    Calls Try.prog 62 #[.pointer (some ⟨g, 0, none⟩), .int .i64 a] w (RetS (.int .i64 (negR p q a)) w) := by
  obtain ⟨ha1, ha2⟩ := ha
  have hsz := ht.size_
  have hmk := ht.mark_
  clear ht
  rcases field_cases h with ⟨rfl, h1, h2, -⟩ | ⟨P, rfl, rfl, hP, -⟩
  · have hs : fsize p 1 = p := rfl
    rw [hs] at ha2 hsz
    have hn : negR p 1 a = (p - a) % p := rfl
    rw [hn]
    simp at hmk
    clear hs hn h
    by_cases h0 : a = 0
    · subst h0
      have hr := Lib.hid (show (p - 0) % p = 0 by simp)
      go_enter Try.func62, Try.ntmps62
      go_wp2
      go_ret
      exact ⟨ret_int (by rw [hr.out]), rfl⟩
    · have hr := Lib.hid (show (p - a) % p = p - a from Int.emod_eq_of_lt (by omega) (by omega))
      have hb : (a == 0) = false := by rw [beq_eq_false_iff_ne]; exact h0
      go_enter Try.func62, Try.ntmps62
      go_wp2
      go_ret
      exact ⟨ret_int (by rw [hr.out]), rfl⟩
  · have hn : negR 2 P a = a := by unfold negR; rw [if_neg (by omega)]
    have hd : decide ((P : Int) = 1) = false := decide_eq_false (by omega)
    rw [hd] at hmk
    simp only [Bool.not_false] at hmk
    rw [hn]
    clear hn h ha2 hsz hd
    go_enter Try.func62, Try.ntmps62
    go_wp2
    go_ret
    exact ⟨rfl, rfl⟩
theorem ret2_r {a b : Int} {r : Int × Int} (h : r = (a, b)) : Ending.returned (.tuple #[.int .i64 a, .int .i64 b]) = .returned (.tuple #[.int .i64 r.1, .int .i64 r.2]) := by rw [h]
theorem fieldNeg_spec (p q y a : Int) (w : World) (ha : -9223372036854775808 ≤ a ∧ a ≤ 9223372036854775807) :
    Calls Try.prog 36 #[.agg #[.int .i64 p, .int .i64 q, .int .i64 y], .int .i64 a] w (RetB (.tuple #[.int .i64 (rNeg p q y a).1, .int .i64 (rNeg p q y a).2]) w) := by
  have hw1 : Below w.heap.size w ((w.alloc (.cells #[.int .i64 p, .int .i64 q, .int .i64 y] 25)).alloc (.cells #[.int .i64 a] 2)) := Below.alloc (Below.alloc (Below.refl w.heap.size w) (Nat.le_refl _) _) (by simp) _
  have hc0 := (show _ = some (Value.int .i64 p) from (alloc_cell_old (w.alloc (.cells #[.int .i64 p, .int .i64 q, .int .i64 y] 25)) (.cells #[.int .i64 a] 2) w.heap.size 0 (by simp)).trans (by rw [cell_of_row _ _ _ _ _ (0, 0) (heap_alloc_new w _)]; rfl))
  have hc1 := (show _ = some (Value.int .i64 q) from (alloc_cell_old (w.alloc (.cells #[.int .i64 p, .int .i64 q, .int .i64 y] 25)) (.cells #[.int .i64 a] 2) w.heap.size 1 (by simp)).trans (by rw [cell_of_row _ _ _ _ _ (0, 0) (heap_alloc_new w _)]; rfl))
  have hc2 := (show _ = some (Value.int .i64 y) from (alloc_cell_old (w.alloc (.cells #[.int .i64 p, .int .i64 q, .int .i64 y] 25)) (.cells #[.int .i64 a] 2) w.heap.size 2 (by simp)).trans (by rw [cell_of_row _ _ _ _ _ (0, 0) (heap_alloc_new w _)]; rfl))
  have hrd := rd_one (w.alloc (.cells #[.int .i64 p, .int .i64 q, .int .i64 y] 25)) 2 a ha
  have hlt : w.heap.size < ((w.alloc (.cells #[.int .i64 p, .int .i64 q, .int .i64 y] 25)).alloc (.cells #[.int .i64 a] 2)).heap.size := by simp; omega
  have HH := Lib.hid (show _ ∧ _ ∧ _ ∧ _ ∧ _ ∧ _ from ⟨hw1, hc0, hc1, hc2, hrd, hlt⟩)
  clear hw1 hc0 hc1 hc2 hrd hlt
  have hd := Lib.hid ha
  clear ha
  by_cases hz : codeF p q y [a] = 0
  · have hr := Lib.hid (show rNeg p q y a = (negR p q a, 0) by unfold rNeg; rw [if_pos hz])
    have hv := Lib.hid (codeF_zero hz)
    have HZ := Lib.hid hz
    clear hz
    go_enter Try.func36, Try.ntmps36
    go_wp2_with fail
    obtain ⟨hw1, hc0, hc1, hc2, hrd, hlt⟩ := HH.out
    refine (l02Code_any p q y _ 1 1 [a] _ (by simpa using hrd) (by omega)).mono ?_
    rw [HZ.out]
    rintro e w1 ⟨rfl, hb1⟩
    obtain ⟨hcc, hff⟩ := bcell hb1
    replace hc0 := (hcc w.heap.size 0 hlt).trans hc0
    replace hc1 := (hcc w.heap.size 1 hlt).trans hc1
    replace hc2 := (hcc w.heap.size 2 hlt).trans hc2
    clear hcc hff hrd
    go_wp2_with fail
    refine (l02Neg_any p q y a _ hv.out.1 hv.out.2).mono ?_
    rintro e w2 ⟨rfl, hb2⟩
    go_wp2_with fail
    go_ret2
    exact ⟨ret2_r hr.out, bt (bt hw1 hb1) hb2⟩
  · have hr := Lib.hid (show rNeg p q y a = (0, codeF p q y [a]) by unfold rNeg; rw [if_neg hz])
    obtain ⟨cd, hcd⟩ : ∃ cd, codeF p q y [a] = cd := ⟨_, rfl⟩
    have HZ := Lib.hid hcd
    rw [hcd] at hz hr
    clear hcd
    have hne : (cd != 0) = true := by rw [bne_iff_ne]; exact hz
    clear hz
    go_enter Try.func36, Try.ntmps36
    go_wp2_with fail
    obtain ⟨hw1, hc0, hc1, hc2, hrd, hlt⟩ := HH.out
    refine (l02Code_any p q y _ 1 1 [a] _ (by simpa using hrd) (by omega)).mono ?_
    rw [HZ.out]
    rintro e w1 ⟨rfl, hb1⟩
    go_wp2_with fail
    go_ret2
    exact ⟨ret2_r hr.out, bt hw1 hb1⟩
theorem fieldNeg_impl (p q y a : Int) (w : World) (ha : -9223372036854775808 ≤ a ∧ a ≤ 9223372036854775807) :
    Calls Try.prog 37 #[.agg #[.int .i64 p, .int .i64 q, .int .i64 y], .int .i64 a] w (RetB (.tuple #[.int .i64 (rNeg p q y a).1, .int .i64 (rNeg p q y a).2]) w) := by
  have hw1 : Below w.heap.size w ((w.alloc (.cells #[.int .i64 p, .int .i64 q, .int .i64 y] 25)).alloc (.cells #[.int .i64 a] 2)) := Below.alloc (Below.alloc (Below.refl w.heap.size w) (Nat.le_refl _) _) (by simp) _
  have hrd := rd_one (w.alloc (.cells #[.int .i64 p, .int .i64 q, .int .i64 y] 25)) 2 a ha
  have HH := Lib.hid (show _ ∧ _ from ⟨hw1, hrd⟩)
  clear hw1 hrd
  have hd := Lib.hid ha
  clear ha
  by_cases hz : codeF p q y [a] = 0
  · have hr := Lib.hid (show rNeg p q y a = (negR p q a, 0) by unfold rNeg; rw [if_pos hz])
    have hv := Lib.hid (codeF_zero hz)
    have HZ := Lib.hid hz
    clear hz
    go_enter Try.func37, Try.ntmps37
    go_wp2_with fail
    obtain ⟨hw1, hrd⟩ := HH.out
    refine (elements_any p q y _ 1 1 [a] _ (by simpa using hrd) (by omega)).mono ?_
    unfold ElemRes
    rw [HZ.out]
    rintro e w1 ⟨o, rfl, hb1, hG⟩
    obtain ⟨G, rfl, hG1, htab⟩ := hG rfl
    go_wp2_with fail
    refine (calcNeg G p q y a _ hv.out.1 hv.out.2 htab).mono ?_
    rintro e w2 ⟨rfl, rfl⟩
    go_wp2_with fail
    go_ret2
    exact ⟨ret2_r hr.out, bt hw1 hb1⟩
  · have hr := Lib.hid (show rNeg p q y a = (0, codeF p q y [a]) by unfold rNeg; rw [if_neg hz])
    obtain ⟨cd, hcd⟩ : ∃ cd, codeF p q y [a] = cd := ⟨_, rfl⟩
    have HZ := Lib.hid hcd
    rw [hcd] at hz hr
    clear hcd
    have hne : (cd != 0) = true := by rw [bne_iff_ne]; exact hz
    clear hz
    go_enter Try.func37, Try.ntmps37
    go_wp2_with fail
    obtain ⟨hw1, hrd⟩ := HH.out
    refine (elements_any p q y _ 1 1 [a] _ (by simpa using hrd) (by omega)).mono ?_
    unfold ElemRes
    rw [HZ.out]
    rintro e w1 ⟨o, rfl, hb1, hG⟩
    clear hG
    go_wp2_with fail
    go_ret2
    exact ⟨ret2_r hr.out, bt hw1 hb1⟩
end Go.Proofs.Ytkcbkgghcpiboaa
