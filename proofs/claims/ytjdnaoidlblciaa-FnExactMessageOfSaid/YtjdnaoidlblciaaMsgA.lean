/-
  Contracts: the code of a code and one word; the message of a word, by the reference and by the program.
  Conditions: none.
-/
import Derived.Test.YtjdnaoidlblciaaCoderS
import Derived.Test.YtjdnaoidlblciaaElemB
import Derived.Test.YtjdnaoidlblciaaL01d
set_option linter.unusedVariables false
namespace Go.Proofs.Ytjdnaoidlblciaa
open Go.RowKit Go.G8
theorem rd_take {K : IntKind} {w : World} {a : Option Addr} {n m : Nat} {xs : List Int} (h : Rd K w a n xs) (hm : m ≤ n) : Rd K w a m (xs.take m) := by
  have hl := h.len
  refine ⟨⟨by simp [ints]; omega, fun h0 => ?_⟩, fun x hx => h.2 x (List.mem_of_mem_take hx)⟩
  obtain ⟨ad, e, hb, hc⟩ := h.1.2 (by omega)
  refine ⟨ad, e, hb, fun j u hu => hc j u ?_⟩
  have hj : j < m := by
    have := (List.getElem?_eq_some_iff.1 hu).1
    simp [ints] at this
    omega
  simp only [ints, List.getElem?_map, List.getElem?_take, if_pos hj] at hu ⊢
  exact hu
def wordB (p q l : Int) (xs : List Int) : Bool := decide ((xs.length : Int) = l) && allF (fsize p q) xs
def codeW (p q y l k : Int) (xs : List Int) : Int := if isCodeB p q y l k then (if wordB p q l xs then 0 else 2) else 1
theorem codeW_bad {p q y l k : Int} {xs : List Int} (h : isCodeB p q y l k = false) : codeW p q y l k xs = 1 := by unfold codeW; rw [h]; rfl
theorem codeW_out {p q y l k : Int} {xs : List Int} (h : isCodeB p q y l k = true) (h2 : wordB p q l xs = false) : codeW p q y l k xs = 2 := by unfold codeW; rw [h, h2]; rfl
theorem codeW_ok {p q y l k : Int} {xs : List Int} (h : isCodeB p q y l k = true) (h2 : wordB p q l xs = true) : codeW p q y l k xs = 0 := by unfold codeW; rw [h, h2]; rfl
theorem codeW_zero {p q y l k : Int} {xs : List Int} (h : codeW p q y l k xs = 0) : isCodeB p q y l k = true ∧ (xs.length : Int) = l ∧ allF (fsize p q) xs = true := by
  unfold codeW at h
  split at h
  · rename_i h1
    split at h
    · rename_i h2
      simp only [wordB, Bool.and_eq_true, decide_eq_true_eq] at h2
      exact ⟨h1, h2⟩
    · omega
  · omega
theorem wordB_len {p q l : Int} {xs : List Int} (h : ¬ (xs.length : Int) = l) : wordB p q l xs = false := by unfold wordB; rw [decide_eq_false h]; rfl
theorem wordB_yes {p q l : Int} {xs : List Int} (h : (xs.length : Int) = l) : wordB p q l xs = allF (fsize p q) xs := by unfold wordB; rw [decide_eq_true h]; rfl
def rMessageOf (p q y l k : Int) (xs : List Int) : List Int × Int := if codeW p q y l k xs = 0 then (xs.take (l - k).toNat, 0) else ([], codeW p q y l k xs)
set_option maxHeartbeats 1000000 in
theorem l04Word_any (p q y l k : Int) (a : Option Addr) (n c : Nat) (xs : List Int) (w : World) (hf : fieldB p q y = true) (h : Rd .i64 w a n xs) (hn : n ≤ 1000000000) :
    Calls Try.prog 118 #[.agg #[.int .i64 p, .int .i64 q, .int .i64 y, .int .i64 l, .int .i64 k], .slice a n c] w (RetB (.bool (wordB p q l xs)) w) := by
  have HL := Lib.hid h.len
  by_cases hl : (n : Int) = l
  · have hr := Lib.hid (wordB_yes (p := p) (q := q) (show (xs.length : Int) = l by rw [HL.out]; exact hl))
    have hb : ((n : Int) == l) = true := by rw [beq_iff_eq]; exact hl
    clear hl
    go_enter Try.func118, Try.ntmps118
    go_wp2_with fail
    have hw0 : Below w.heap.size w (w.alloc (.cells #[.int .i64 p, .int .i64 q, .int .i64 y, .int .i64 l, .int .i64 k] 49)) := Below.alloc (Below.refl _ _) (Nat.le_refl _) _
    refine (l02Is_any p q y a n c xs _ hf (h.to hw0) hn).mono ?_
    rintro e w1 ⟨rfl, hb1⟩
    go_wp2_with fail
    go_ret
    exact ⟨ret_bool hr.out.symm, bt hw0 hb1⟩
  · have hr := Lib.hid (wordB_len (p := p) (q := q) (show ¬ (xs.length : Int) = l by rw [HL.out]; exact hl))
    have hb : ((n : Int) == l) = false := by rw [beq_eq_false_iff_ne]; exact hl
    clear hl
    go_enter Try.func118, Try.ntmps118
    go_wp2_with fail
    go_ret
    exact ⟨ret_bool hr.out.symm, Below.alloc (Below.refl _ _) (Nat.le_refl _) _⟩
theorem isWord_any (D G : Nat) (p q l : Int) (a : Option Addr) (n c : Nat) (xs : List Int) (w : World) (hs : 3 ≤ fsize p q ∧ fsize p q ≤ 1021) (hD : w.cell? ⟨D, 0, none⟩ = some (.pointer (some ⟨G, 0, none⟩))) (hL : w.cell? ⟨D, 1, none⟩ = some (.int .i64 l)) (hG : w.cell? ⟨G, 1, none⟩ = some (.int .i64 (fsize p q))) (h : Rd .i64 w a n xs) (hn : n ≤ 1000000000) :
    Calls Try.prog 120 #[.pointer (some ⟨D, 0, none⟩), .slice a n c] w (RetS (.bool (wordB p q l xs)) w) := by
  have HL := Lib.hid h.len
  by_cases hl : (n : Int) = l
  · have hr := Lib.hid (wordB_yes (p := p) (q := q) (show (xs.length : Int) = l by rw [HL.out]; exact hl))
    have hb : ((n : Int) == l) = true := by rw [beq_iff_eq]; exact hl
    clear hl
    go_enter Try.func120, Try.ntmps120
    go_wp2_with fail
    refine (hasAll_any G (fsize p q) a n c xs _ hs hG h hn).mono ?_
    rintro e w1 ⟨rfl, rfl⟩
    go_wp2_with fail
    go_ret
    exact ⟨ret_bool hr.out.symm, rfl⟩
  · have hr := Lib.hid (wordB_len (p := p) (q := q) (show ¬ (xs.length : Int) = l by rw [HL.out]; exact hl))
    have hb : ((n : Int) == l) = false := by rw [beq_eq_false_iff_ne]; exact hl
    clear hl
    go_enter Try.func120, Try.ntmps120
    go_wp2_with fail
    go_ret
    exact ⟨ret_bool hr.out.symm, rfl⟩
theorem start5 (w : World) (A : Array Value) (T : TypeId) : Below w.heap.size w (w.alloc (.cells A T)) ∧ w.heap.size < (w.alloc (.cells A T)).heap.size ∧ (∀ i v, A[i]? = some v → (w.alloc (.cells A T)).cell? ⟨w.heap.size, i, none⟩ = some v) := by
  refine ⟨Below.alloc (Below.refl _ _) (Nat.le_refl _) _, by simp, fun i v hv => ?_⟩
  rw [cell_of_row _ _ _ _ _ (0, 0) (heap_alloc_new w _), hv]
theorem keep6 {wr w1 : World} {h b : Nat} {x0 x1 x2 x3 x4 x5 : Value} (hb1 : Below wr.heap.size wr w1) (hlt : h < wr.heap.size) (hblt : b < wr.heap.size) (c0 : wr.cell? ⟨h, 0, none⟩ = some x0) (c1 : wr.cell? ⟨h, 1, none⟩ = some x1) (c2 : wr.cell? ⟨h, 2, none⟩ = some x2) (c3 : wr.cell? ⟨h, 3, none⟩ = some x3) (c4 : wr.cell? ⟨h, 4, none⟩ = some x4) (c5 : wr.cell? ⟨b, 0, none⟩ = some x5) :
    w1.cell? ⟨h, 0, none⟩ = some x0 ∧ w1.cell? ⟨h, 1, none⟩ = some x1 ∧ w1.cell? ⟨h, 2, none⟩ = some x2 ∧ w1.cell? ⟨h, 3, none⟩ = some x3 ∧ w1.cell? ⟨h, 4, none⟩ = some x4 ∧ w1.cell? ⟨b, 0, none⟩ = some x5 := by
  obtain ⟨hcc, hff⟩ := bcell hb1
  exact ⟨(hcc h 0 hlt).trans c0, (hcc h 1 hlt).trans c1, (hcc h 2 hlt).trans c2, (hcc h 3 hlt).trans c3, (hcc h 4 hlt).trans c4, (hcc b 0 hblt).trans c5⟩
set_option maxRecDepth 20000 in
theorem l04Code_one (p q y l k : Int) (b : Nat) (a : Option Addr) (n c : Nat) (xs : List Int) (w : World) (hl0 : -9223372036854775808 ≤ l ∧ l ≤ 9223372036854775807) (hcell : w.cell? ⟨b, 0, none⟩ = some (.slice a n c)) (h : Rd .i64 w a n xs) (hn : n ≤ 1000000000) :
    Calls Try.prog 86 #[.agg #[.int .i64 p, .int .i64 q, .int .i64 y, .int .i64 l, .int .i64 k], .slice (some ⟨b, 0, none⟩) 1 1] w (RetB (.int .i64 (codeW p q y l k xs)) w) := by
  have HR := Lib.hid h
  have HB := Lib.hid (World.block_lt_of_cell? _ _ hcell)
  have HC := Lib.hid hcell
  have HS := Lib.hid (start5 w #[.int .i64 p, .int .i64 q, .int .i64 y, .int .i64 l, .int .i64 k] 49)
  clear h hcell
  cases hc : isCodeB p q y l k with
  | false =>
    have hr := Lib.hid (codeW_bad (xs := xs) hc)
    go_enter Try.func86, Try.ntmps86
    go_wp2_with fail
    refine (isCode_spec p q y l k _ hl0).mono ?_
    rw [hc]
    rintro e w1 ⟨rfl, hb1⟩
    have hB := bt HS.out.1 hb1
    go_wp2_with fail
    go_ret
    exact ⟨ret_int hr.out.symm, hB⟩
  | true =>
    have hf := Lib.hid (show fieldB p q y = true by
      unfold isCodeB at hc
      simp only [Bool.and_eq_true, decide_eq_true_eq] at hc
      exact hc.2.2.1)
    go_enter Try.func86, Try.ntmps86
    go_wp2_with fail
    refine (isCode_spec p q y l k _ hl0).mono ?_
    have HCo := Lib.hid hc
    rw [hc]
    clear hc
    rintro e w1 ⟨rfl, hb1⟩
    have hB := bt HS.out.1 hb1
    obtain ⟨hcc, hff⟩ := bcell hb1
    have d0 := (hcc _ 0 HS.out.2.1).trans (HS.out.2.2 0 (.int .i64 p) rfl)
    have d1 := (hcc _ 1 HS.out.2.1).trans (HS.out.2.2 1 (.int .i64 q) rfl)
    have d2 := (hcc _ 2 HS.out.2.1).trans (HS.out.2.2 2 (.int .i64 y) rfl)
    have d3 := (hcc _ 3 HS.out.2.1).trans (HS.out.2.2 3 (.int .i64 l) rfl)
    have d4 := (hcc _ 4 HS.out.2.1).trans (HS.out.2.2 4 (.int .i64 k) rfl)
    have hcl := (hB.cell (p := ⟨b, 0, none⟩) HB.out).trans HC.out
    have hlt := Nat.lt_of_lt_of_le HS.out.2.1 hb1.size
    have hblt := Nat.lt_of_lt_of_le HB.out hB.size
    clear hcc hff hb1
    go_wp2_with fail
    go_loopw [5] (fun i wr => ∃ j : Nat, j ≤ 1 ∧ i = .int .i64 (j : Int) ∧ Hid (j = 1 → wordB p q l xs = true) ∧ Below w.heap.size w wr ∧ w.heap.size < wr.heap.size ∧ b < wr.heap.size ∧ wr.cell? ⟨w.heap.size, 0, none⟩ = some (.int .i64 p) ∧ wr.cell? ⟨w.heap.size, 1, none⟩ = some (.int .i64 q) ∧ wr.cell? ⟨w.heap.size, 2, none⟩ = some (.int .i64 y) ∧ wr.cell? ⟨w.heap.size, 3, none⟩ = some (.int .i64 l) ∧ wr.cell? ⟨w.heap.size, 4, none⟩ = some (.int .i64 k) ∧ wr.cell? ⟨b, 0, none⟩ = some (.slice a n c)) (fun i _ => 1 - (intOf i).toNat)
    case atStart => exact ⟨0, by omega, rfl, Lib.hid (fun h => by omega), hB, hlt, hblt, d0, d1, d2, d3, d4, hcl⟩
    case round =>
      clear hB hlt hblt d0 d1 d2 d3 d4 hcl
      obtain ⟨j, hj, rfl, hj1, hbw, hlt, hblt, d0, d1, d2, d3, d4, hcl⟩ := hrel
      by_cases hj0 : j = 1
      · subst hj0
        have hr := Lib.hid (codeW_ok HCo.out (hj1.out rfl))
        go_wp2_with fail
        go_ret
        exact ⟨ret_int hr.out.symm, hbw⟩
      · obtain rfl : j = 0 := by omega
        have HW := Lib.hid (fun w' h' => l04Word_any p q y l k a n c xs w' hf.out h' hn)
        cases hwb : wordB p q l xs with
        | false =>
          have hr := Lib.hid (codeW_out HCo.out hwb)
          rw [hwb] at HW
          go_wp2_with fail
          go_region_held3 (fun w' => w'.cell? ⟨w.heap.size, 0, none⟩ = some (.int .i64 p) ∧ w'.cell? ⟨w.heap.size, 1, none⟩ = some (.int .i64 q) ∧ w'.cell? ⟨w.heap.size, 2, none⟩ = some (.int .i64 y) ∧ w'.cell? ⟨w.heap.size, 3, none⟩ = some (.int .i64 l) ∧ w'.cell? ⟨w.heap.size, 4, none⟩ = some (.int .i64 k) ∧ w'.cell? ⟨b, 0, none⟩ = some (.slice a n c))
            (first | go_keep | exact keep6 hb2 hlt hblt d0 d1 d2 d3 d4 hcl)
            (first | (go_at_call 118; refine (HW.out _ (HR.out.to hbw.drew)).mono ?_; rintro e w2 ⟨rfl, hb2⟩))
          have hb3 := ((Below.refl wr.heap.size wr).drew).trans hb2
          go_wp2
          go_ret
          exact ⟨ret_int hr.out.symm, bt hbw hb3⟩
        | true =>
          rw [hwb] at HW
          go_wp2_with fail
          go_region_held3 (fun w' => w'.cell? ⟨w.heap.size, 0, none⟩ = some (.int .i64 p) ∧ w'.cell? ⟨w.heap.size, 1, none⟩ = some (.int .i64 q) ∧ w'.cell? ⟨w.heap.size, 2, none⟩ = some (.int .i64 y) ∧ w'.cell? ⟨w.heap.size, 3, none⟩ = some (.int .i64 l) ∧ w'.cell? ⟨w.heap.size, 4, none⟩ = some (.int .i64 k) ∧ w'.cell? ⟨b, 0, none⟩ = some (.slice a n c))
            (first | go_keep | exact keep6 hb2 hlt hblt d0 d1 d2 d3 d4 hcl)
            (first | (go_at_call 118; refine (HW.out _ (HR.out.to hbw.drew)).mono ?_; rintro e w2 ⟨rfl, hb2⟩))
          have hb3 := ((Below.refl wr.heap.size wr).drew).trans hb2
          obtain ⟨e0, e1, e2, e3, e4, e5⟩ := keep6 hb3 hlt hblt d0 d1 d2 d3 d4 hcl
          have hs3 := hb3.size
          go_wp2
          exact ⟨⟨1, by omega, by go_num, Lib.hid (fun _ => trivial), bt hbw hb3, by omega, by omega, e0, e1, e2, e3, e4, e5⟩, by simp [intOf]⟩
set_option maxRecDepth 20000 in
theorem words_one (p q y l k : Int) (b : Nat) (a : Option Addr) (n c : Nat) (xs : List Int) (w : World) (hcell : w.cell? ⟨b, 0, none⟩ = some (.slice a n c)) (h : Rd .i64 w a n xs) (hn : n ≤ 1000000000) :
    Calls Try.prog 88 #[.agg #[.int .i64 p, .int .i64 q, .int .i64 y, .int .i64 l, .int .i64 k], .slice (some ⟨b, 0, none⟩) 1 1] w (fun e w' => ∃ o : Option Addr, e = .returned (.tuple #[.pointer o, .int .i64 (codeW p q y l k xs)]) ∧ Below w.heap.size w w' ∧
      (codeW p q y l k xs = 0 → ∃ D, o = some ⟨D, 0, none⟩ ∧ w'.cell? ⟨D, 1, none⟩ = some (.int .i64 l) ∧ w'.cell? ⟨D, 2, none⟩ = some (.int .i64 k))) := by
  have HR := Lib.hid h
  have HB := Lib.hid (World.block_lt_of_cell? _ _ hcell)
  have HC := Lib.hid hcell
  have HS := Lib.hid (start5 w #[.int .i64 p, .int .i64 q, .int .i64 y, .int .i64 l, .int .i64 k] 49)
  clear h hcell
  cases hc : isCodeB p q y l k with
  | false =>
    have hr := Lib.hid (codeW_bad (xs := xs) hc)
    go_enter Try.func88, Try.ntmps88
    go_wp2_with fail
    refine (coder_any p q y l k _).mono ?_
    unfold CoderRes
    rw [hc]
    rintro e w1 ⟨o, rfl, hb1, -⟩
    have hB := bt HS.out.1 hb1
    go_wp2_with fail
    go_ret2
    exact ⟨none, by rw [hr.out]; rfl, hB, fun hz => by rw [hr.out] at hz; omega⟩
  | true =>
    have hf := Lib.hid (show fieldB p q y = true by
      unfold isCodeB at hc
      simp only [Bool.and_eq_true, decide_eq_true_eq] at hc
      exact hc.2.2.1)
    go_enter Try.func88, Try.ntmps88
    go_wp2_with fail
    refine (coder_any p q y l k _).mono ?_
    unfold CoderRes
    have HCo := Lib.hid hc
    rw [hc]
    clear hc
    rintro e w1 ⟨o, rfl, hb1, hD⟩
    obtain ⟨D, G, rfl, hD1, c0, c1, c2, htab⟩ := hD rfl
    have hB := bt HS.out.1 hb1
    have hcl := (hB.cell (p := ⟨b, 0, none⟩) HB.out).trans HC.out
    have hsz := htab.size_
    clear hb1 htab hD
    have hR1 := HR.out.to hB
    have hbd := fsize_bd hf.out
    go_wp2_with fail
    go_loop [19] (fun i => ∃ j : Nat, j ≤ 1 ∧ i = .int .i64 (j : Int) ∧ Hid (j = 1 → wordB p q l xs = true)) (fun i => 1 - (intOf i).toNat)
    case atStart => exact ⟨0, by omega, rfl, Lib.hid (fun h => by omega)⟩
    case round =>
      obtain ⟨j, hj, rfl, hj1⟩ := hrel
      by_cases hj0 : j = 1
      · subst hj0
        have hr := Lib.hid (codeW_ok HCo.out (hj1.out rfl))
        go_wp2_with fail
        go_ret2
        exact ⟨_, by rw [hr.out]; rfl, hB, fun _ => ⟨D, rfl, c1, c2⟩⟩
      · obtain rfl : j = 0 := by omega
        have HI := Lib.hid (isWord_any D G p q l a n c xs _ hbd c0 c1 hsz hR1 hn)
        cases hwb : wordB p q l xs with
        | false =>
          have hr := Lib.hid (codeW_out HCo.out hwb)
          rw [hwb] at HI
          go_wp2_with fail
          refine HI.out.mono ?_
          rintro e w2 ⟨rfl, rfl⟩
          go_wp2_with fail
          go_ret2
          exact ⟨none, by rw [hr.out]; rfl, hB, fun hz => by rw [hr.out] at hz; omega⟩
        | true =>
          rw [hwb] at HI
          go_wp2_with fail
          refine HI.out.mono ?_
          rintro e w2 ⟨rfl, rfl⟩
          go_wp2_with fail
          go_round
          case rel => exact ⟨1, by omega, by go_num, Lib.hid (fun _ => trivial)⟩
          case measure => simp [intOf]
theorem rMessageOf_bad {p q y l k : Int} {xs : List Int} (h : codeW p q y l k xs ≠ 0) : rMessageOf p q y l k xs = ([], codeW p q y l k xs) := by unfold rMessageOf; rw [if_neg h]
theorem rMessageOf_yes {p q y l k : Int} {xs : List Int} (h : codeW p q y l k xs = 0) : rMessageOf p q y l k xs = (xs.take (l - k).toNat, 0) := by unfold rMessageOf; rw [if_pos h]
theorem codeW_bd {p q y l k : Int} {xs : List Int} (h : codeW p q y l k xs = 0) : 1 ≤ k ∧ k + 1 ≤ l ∧ l ≤ 255 ∧ (xs.length : Int) = l := by
  obtain ⟨h1, h2, h3⟩ := codeW_zero h
  unfold isCodeB at h1
  simp only [Bool.and_eq_true, decide_eq_true_eq] at h1
  omega
theorem rMessageOf_ok (p q y l k : Int) (xs : List Int) : (rMessageOf p q y l k xs).1.length ≤ 1000000 ∧ ∀ x ∈ (rMessageOf p q y l k xs).1, fits .i64 x := by
  by_cases h : codeW p q y l k xs = 0
  · rw [rMessageOf_yes h]
    have h1 := codeW_bd h
    have h2 := (codeW_zero h).2.2
    have hfs := fsize_bd (show fieldB p q y = true by
      have hc := (codeW_zero h).1
      unfold isCodeB at hc
      simp only [Bool.and_eq_true, decide_eq_true_eq] at hc
      exact hc.2.2.1)
    refine ⟨by simp only [List.length_take]; omega, fun x hx => ?_⟩
    have hx2 := List.all_eq_true.1 h2 x (List.mem_of_mem_take hx)
    simp only [inF, decide_eq_true_eq] at hx2
    show -9223372036854775808 ≤ x ∧ x ≤ 9223372036854775807
    omega
  · rw [rMessageOf_bad h]; simp
theorem two_blocks2 (w : World) (A B : Array Value) (T E : TypeId) (v : Value) (hB : B = #[v]) :
    Below w.heap.size w ((w.alloc (.cells A T)).alloc (.cells B E)) ∧ ((w.alloc (.cells A T)).alloc (.cells B E)).cell? ⟨w.heap.size + 1, 0, none⟩ = some v ∧
    (∀ i u, A[i]? = some u → ((w.alloc (.cells A T)).alloc (.cells B E)).cell? ⟨w.heap.size, i, none⟩ = some u) ∧ w.heap.size < ((w.alloc (.cells A T)).alloc (.cells B E)).heap.size := by
  subst hB
  refine ⟨Below.alloc (Below.alloc (Below.refl w.heap.size w) (Nat.le_refl _) _) (by simp) _, ?_, fun i u hv => ?_, by simp; omega⟩
  · have h := alloc_cell (w.alloc (.cells A T)) v E
    rw [show (w.alloc (.cells A T)).heap.size = w.heap.size + 1 by simp] at h
    exact h
  · rw [alloc_cell_old _ _ _ _ (by simp), cell_of_row _ _ _ _ _ (0, 0) (heap_alloc_new w _), hv]
set_option maxRecDepth 20000 in
theorem specMessageOf_any (p q y l k : Int) (a : Option Addr) (n c : Nat) (xs : List Int) (w : World) (hl0 : -9223372036854775808 ≤ l ∧ l ≤ 9223372036854775807) (h : Rd .i64 w a n xs) (hn : n ≤ 1000000000) (hc : n ≤ c ∧ c ≤ 9223372036854775807) :
    Calls Try.prog 37 #[.agg #[.int .i64 p, .int .i64 q, .int .i64 y, .int .i64 l, .int .i64 k], .slice a n c] w (RetRow2 .i64 2 (rMessageOf p q y l k xs).1 (.int .i64 (rMessageOf p q y l k xs).2) w) := by
  have HL := Lib.hid h.len
  have HR := Lib.hid h
  have HH := Lib.hid (two_blocks2 w #[.int .i64 p, .int .i64 q, .int .i64 y, .int .i64 l, .int .i64 k] #[.slice a n c] 49 37 (.slice a n c) rfl)
  clear h
  by_cases hz : codeW p q y l k xs = 0
  · have hr := Lib.hid (rMessageOf_yes hz)
    have hbd := codeW_bd hz
    have HZ := Lib.hid hz
    clear hz
    go_enter Try.func37, Try.ntmps37
    obtain ⟨m, hm⟩ : ∃ m : Nat, l - k = (m : Int) := ⟨(l - k).toNat, by omega⟩
    have hwk : IntKind.i64.wrap (l - k) = (m : Int) := (IntWalk.i64_in _ (by omega)).trans hm
    have hmn : m ≤ n := by have := HL.out; omega
    have hmc : m ≤ c := by omega
    rw [hm, Int.toNat_natCast] at hr
    clear hm
    go_wp2_with fail
    obtain ⟨hw1, hcell, hcl, hlt⟩ := HH.out
    refine (l04Code_one p q y l k _ a n c xs _ hl0 hcell (HR.out.to hw1) hn).mono ?_
    rw [HZ.out]
    rintro e w1 ⟨rfl, hb1⟩
    obtain ⟨hcc, hff⟩ := bcell hb1
    have d3 := (hcc _ 3 hlt).trans (hcl 3 (.int .i64 l) rfl)
    have d4 := (hcc _ 4 hlt).trans (hcl 4 (.int .i64 k) rfl)
    have hB := bt hw1 hb1
    have hR1 := HR.out.to hB
    clear hcc hff hcl hb1 hw1 hlt hcell
    go_wp2_with fail
    refine (l01Own_any a m c (xs.take m) _ (rd_take hR1 hmn) (by omega)).mono ?_
    rintro e w2 ⟨a2, n2, c2, rfl, ho2, hb2⟩
    go_wp2_with fail
    go_ret2
    exact retRow2_of hr.out (ho2.more hB.size) (bt hB hb2)
  · have hr := Lib.hid (rMessageOf_bad hz)
    obtain ⟨cd, hcd⟩ : ∃ cd, codeW p q y l k xs = cd := ⟨_, rfl⟩
    have HZ := Lib.hid hcd
    rw [hcd] at hz hr
    clear hcd
    have hne : (cd != 0) = true := by rw [bne_iff_ne]; exact hz
    clear hz
    go_enter Try.func37, Try.ntmps37
    go_wp2_with fail
    obtain ⟨hw1, hcell, hcl, hlt⟩ := HH.out
    refine (l04Code_one p q y l k _ a n c xs _ hl0 hcell (HR.out.to hw1) hn).mono ?_
    rw [HZ.out]
    rintro e w1 ⟨rfl, hb1⟩
    clear hcl
    go_wp2_with fail
    go_ret2
    exact retRow2_nil hr.out (bt hw1 hb1)
theorem keep2 {wr w1 : World} {h : Nat} {x1 x2 : Value} (hb1 : Below wr.heap.size wr w1) (hlt : h < wr.heap.size) (c1 : wr.cell? ⟨h, 1, none⟩ = some x1) (c2 : wr.cell? ⟨h, 2, none⟩ = some x2) :
    w1.cell? ⟨h, 1, none⟩ = some x1 ∧ w1.cell? ⟨h, 2, none⟩ = some x2 := by
  obtain ⟨hcc, hff⟩ := bcell hb1
  exact ⟨(hcc h 1 hlt).trans c1, (hcc h 2 hlt).trans c2⟩
set_option maxRecDepth 20000 in
theorem implMessageOf_any (p q y l k : Int) (a : Option Addr) (n c : Nat) (xs : List Int) (w : World) (h : Rd .i64 w a n xs) (hn : n ≤ 1000000000) (hc : n ≤ c ∧ c ≤ 9223372036854775807) :
    Calls Try.prog 39 #[.agg #[.int .i64 p, .int .i64 q, .int .i64 y, .int .i64 l, .int .i64 k], .slice a n c] w (RetRow2 .i64 2 (rMessageOf p q y l k xs).1 (.int .i64 (rMessageOf p q y l k xs).2) w) := by
  have HL := Lib.hid h.len
  have HR := Lib.hid h
  have HH := Lib.hid (two_blocks2 w #[.int .i64 p, .int .i64 q, .int .i64 y, .int .i64 l, .int .i64 k] #[.slice a n c] 49 37 (.slice a n c) rfl)
  clear h
  by_cases hz : codeW p q y l k xs = 0
  · have hr := Lib.hid (rMessageOf_yes hz)
    have hbd := codeW_bd hz
    have HZ := Lib.hid hz
    clear hz
    obtain ⟨m, hm⟩ : ∃ m : Nat, l - k = (m : Int) := ⟨(l - k).toNat, by omega⟩
    have hwk : IntKind.i64.wrap (l - k) = (m : Int) := (IntWalk.i64_in _ (by omega)).trans hm
    have hmn : m ≤ n := by have := HL.out; omega
    have hmc : m ≤ c := by omega
    rw [hm, Int.toNat_natCast] at hr
    clear hm
    go_enter Try.func39, Try.ntmps39
    go_wp2_with fail
    obtain ⟨hw1, hcell, hcl, hlt⟩ := HH.out
    refine (words_one p q y l k _ a n c xs _ hcell (HR.out.to hw1) hn).mono ?_
    rw [HZ.out]
    rintro e w1 ⟨o, rfl, hb1, hD⟩
    obtain ⟨D, rfl, c1, c2⟩ := hD rfl
    have hB := bt hw1 hb1
    have hR1 := HR.out.to hB
    clear hcl hb1 hw1 hlt hcell hD
    have hDl := World.block_lt_of_cell? _ _ c1
    have HT := Lib.hid (rd_take hR1 hmn)
    go_wp2_with fail
    go_region_held3 (fun w' => w'.cell? ⟨D, 1, none⟩ = some (.int .i64 l) ∧ w'.cell? ⟨D, 2, none⟩ = some (.int .i64 k))
      (first | go_keep | exact keep2 hb2 hDl c1 c2)
      (first | (go_at_call 89; refine (copyOf_any a m c (xs.take m) _ (HT.out.to (Below.refl _ _).drew) (by omega)).mono ?_; rintro e w2 ⟨a2, n2, c3, rfl, ho2, hb2⟩))
    have hb3 := ((Below.refl w1.heap.size w1).drew).trans hb2
    go_wp2_with fail
    go_ret2
    exact retRow2_of hr.out (ho2.more hB.size) (bt hB hb3)
  · have hr := Lib.hid (rMessageOf_bad hz)
    obtain ⟨cd, hcd⟩ : ∃ cd, codeW p q y l k xs = cd := ⟨_, rfl⟩
    have HZ := Lib.hid hcd
    rw [hcd] at hz hr
    clear hcd
    have hne : (cd != 0) = true := by rw [bne_iff_ne]; exact hz
    clear hz
    go_enter Try.func39, Try.ntmps39
    go_wp2_with fail
    obtain ⟨hw1, hcell, hcl, hlt⟩ := HH.out
    refine (words_one p q y l k _ a n c xs _ hcell (HR.out.to hw1) hn).mono ?_
    rw [HZ.out]
    rintro e w1 ⟨o, rfl, hb1, -⟩
    clear hcl
    go_wp2_with fail
    go_ret2
    exact retRow2_nil hr.out (bt hw1 hb1)
end Go.Proofs.Ytjdnaoidlblciaa
