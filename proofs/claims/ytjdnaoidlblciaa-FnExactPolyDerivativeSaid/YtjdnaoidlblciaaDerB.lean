/-
  Contracts: the code of a field and one polynomial; the derivative, by the reference and by the program.
  Conditions: none.
-/
import Derived.Test.YtjdnaoidlblciaaDerA
import Derived.Test.YtjdnaoidlblciaaPolyIs
import Derived.Test.YtjdnaoidlblciaaL01d
set_option linter.unusedVariables false
namespace Go.Proofs.Ytjdnaoidlblciaa
open Go.RowKit Go.G8
def codeP (p q y : Int) (xs : List Int) : Int := if isPolyB p q y xs then 0 else 1
theorem codeP_no {p q y : Int} {xs : List Int} (h : isPolyB p q y xs = false) : codeP p q y xs = 1 := by unfold codeP; rw [h]; rfl
theorem codeP_yes {p q y : Int} {xs : List Int} (h : isPolyB p q y xs = true) : codeP p q y xs = 0 := by unfold codeP; rw [h]; rfl
theorem codeP_zero {p q y : Int} {xs : List Int} (h : codeP p q y xs = 0) : fieldB p q y = true ∧ xs.length ≤ 512 ∧ allF (fsize p q) xs = true := by
  unfold codeP at h
  split at h
  · rename_i h1
    simp only [isPolyB, polyB, Bool.and_eq_true, decide_eq_true_eq] at h1
    exact ⟨h1.1, h1.2.1, h1.2.2.1⟩
  · omega
theorem keep4b {wr w1 : World} {h b : Nat} {x0 x1 x2 x5 : Value} (hb1 : Below wr.heap.size wr w1) (hlt : h < wr.heap.size) (hblt : b < wr.heap.size) (c0 : wr.cell? ⟨h, 0, none⟩ = some x0) (c1 : wr.cell? ⟨h, 1, none⟩ = some x1) (c2 : wr.cell? ⟨h, 2, none⟩ = some x2) (c5 : wr.cell? ⟨b, 0, none⟩ = some x5) :
    w1.cell? ⟨h, 0, none⟩ = some x0 ∧ w1.cell? ⟨h, 1, none⟩ = some x1 ∧ w1.cell? ⟨h, 2, none⟩ = some x2 ∧ w1.cell? ⟨b, 0, none⟩ = some x5 := by
  obtain ⟨hcc, hff⟩ := bcell hb1
  exact ⟨(hcc h 0 hlt).trans c0, (hcc h 1 hlt).trans c1, (hcc h 2 hlt).trans c2, (hcc b 0 hblt).trans c5⟩
theorem cell3' {w1 w2 : World} {b : Nat} {x1 x2 x3 : Value} (hb : Below w1.heap.size w1 w2) (hlt : b < w1.heap.size) (c1 : w1.cell? ⟨b, 0, none⟩ = some x1) (c2 : w1.cell? ⟨b, 1, none⟩ = some x2) (c3 : w1.cell? ⟨b, 2, none⟩ = some x3) :
    w2.cell? ⟨b, 0, none⟩ = some x1 ∧ w2.cell? ⟨b, 1, none⟩ = some x2 ∧ w2.cell? ⟨b, 2, none⟩ = some x3 := by
  obtain ⟨hcc, hff⟩ := bcell hb
  exact ⟨(hcc b 0 hlt).trans c1, (hcc b 1 hlt).trans c2, (hcc b 2 hlt).trans c3⟩
set_option maxRecDepth 20000 in
theorem l03Code_one (p q y : Int) (b : Nat) (a : Option Addr) (n c : Nat) (xs : List Int) (w : World) (hcell : w.cell? ⟨b, 0, none⟩ = some (.slice a n c)) (h : Rd .i64 w a n xs) (hn : n ≤ 1000000000) :
    Calls Try.prog 73 #[.agg #[.int .i64 p, .int .i64 q, .int .i64 y], .slice (some ⟨b, 0, none⟩) 1 1] w (RetB (.int .i64 (codeP p q y xs)) w) := by
  have HR := Lib.hid h
  have HB := Lib.hid (World.block_lt_of_cell? _ _ hcell)
  have HC := Lib.hid hcell
  have HS := Lib.hid (start3 w (.int .i64 p) (.int .i64 q) (.int .i64 y) 26)
  clear h hcell
  cases hf : fieldB p q y with
  | false =>
    have hr := Lib.hid (codeP_no (xs := xs) (isPolyB_no hf))
    go_enter Try.func73, Try.ntmps73
    go_wp2_with fail
    refine (isField_spec p q y _).mono ?_
    rw [hf]
    rintro e w1 ⟨rfl, hb1⟩
    have hB := bt HS.out.1 hb1
    go_wp2_with fail
    go_ret
    exact ⟨ret_int hr.out.symm, hB⟩
  | true =>
    have HF := Lib.hid hf
    go_enter Try.func73, Try.ntmps73
    go_wp2_with fail
    refine (isField_spec p q y _).mono ?_
    rw [hf]
    clear hf
    rintro e w1 ⟨rfl, hb1⟩
    have hB := bt HS.out.1 hb1
    obtain ⟨d0, d1, d2⟩ := cell3' hb1 HS.out.2.1 HS.out.2.2.1 HS.out.2.2.2.1 HS.out.2.2.2.2
    have hcl := (hB.cell (p := ⟨b, 0, none⟩) HB.out).trans HC.out
    have hlt := Nat.lt_of_lt_of_le HS.out.2.1 hb1.size
    have hblt := Nat.lt_of_lt_of_le HB.out hB.size
    clear hb1
    go_wp2_with fail
    go_loopw [5] (fun i wr => ∃ j : Nat, j ≤ 1 ∧ i = .int .i64 (j : Int) ∧ Hid (j = 1 → polyB (fsize p q) xs = true) ∧ Below w.heap.size w wr ∧ w.heap.size < wr.heap.size ∧ b < wr.heap.size ∧ wr.cell? ⟨w.heap.size, 0, none⟩ = some (.int .i64 p) ∧ wr.cell? ⟨w.heap.size, 1, none⟩ = some (.int .i64 q) ∧ wr.cell? ⟨w.heap.size, 2, none⟩ = some (.int .i64 y) ∧ wr.cell? ⟨b, 0, none⟩ = some (.slice a n c)) (fun i _ => 1 - (intOf i).toNat)
    case atStart => exact ⟨0, by omega, rfl, Lib.hid (fun h => by omega), hB, hlt, hblt, d0, d1, d2, hcl⟩
    case round =>
      clear hB hlt hblt d0 d1 d2 hcl
      obtain ⟨j, hj, rfl, hj1, hbw, hlt, hblt, d0, d1, d2, hcl⟩ := hrel
      by_cases hj0 : j = 1
      · subst hj0
        have hr := Lib.hid (codeP_yes ((isPolyB_yes HF.out).trans (hj1.out rfl)))
        go_wp2_with fail
        go_ret
        exact ⟨ret_int hr.out.symm, hbw⟩
      · obtain rfl : j = 0 := by omega
        have HW := Lib.hid (fun w' h' => l03Is_any p q y a n c xs w' HF.out h' hn)
        cases hwb : polyB (fsize p q) xs with
        | false =>
          have hr := Lib.hid (codeP_no ((isPolyB_yes HF.out).trans hwb))
          rw [hwb] at HW
          go_wp2_with fail
          go_region_held3 (fun w' => w'.cell? ⟨w.heap.size, 0, none⟩ = some (.int .i64 p) ∧ w'.cell? ⟨w.heap.size, 1, none⟩ = some (.int .i64 q) ∧ w'.cell? ⟨w.heap.size, 2, none⟩ = some (.int .i64 y) ∧ w'.cell? ⟨b, 0, none⟩ = some (.slice a n c))
            (first | go_keep | exact keep4b hb2 hlt hblt d0 d1 d2 hcl)
            (first | (go_at_call 111; refine (HW.out _ (HR.out.to hbw.drew)).mono ?_; rintro e w2 ⟨rfl, hb2⟩))
          have hb3 := ((Below.refl wr.heap.size wr).drew).trans hb2
          go_wp2
          go_ret
          exact ⟨ret_int hr.out.symm, bt hbw hb3⟩
        | true =>
          rw [hwb] at HW
          go_wp2_with fail
          go_region_held3 (fun w' => w'.cell? ⟨w.heap.size, 0, none⟩ = some (.int .i64 p) ∧ w'.cell? ⟨w.heap.size, 1, none⟩ = some (.int .i64 q) ∧ w'.cell? ⟨w.heap.size, 2, none⟩ = some (.int .i64 y) ∧ w'.cell? ⟨b, 0, none⟩ = some (.slice a n c))
            (first | go_keep | exact keep4b hb2 hlt hblt d0 d1 d2 hcl)
            (first | (go_at_call 111; refine (HW.out _ (HR.out.to hbw.drew)).mono ?_; rintro e w2 ⟨rfl, hb2⟩))
          have hb3 := ((Below.refl wr.heap.size wr).drew).trans hb2
          obtain ⟨e0, e1, e2, e5⟩ := keep4b hb3 hlt hblt d0 d1 d2 hcl
          have hs3 := hb3.size
          go_wp2
          exact ⟨⟨1, by omega, by go_num, Lib.hid (fun _ => trivial), bt hbw hb3, by omega, by omega, e0, e1, e2, e5⟩, by simp [intOf]⟩
set_option maxRecDepth 20000 in
theorem polynomials_one (p q y : Int) (b : Nat) (a : Option Addr) (n c : Nat) (xs : List Int) (w : World) (hcell : w.cell? ⟨b, 0, none⟩ = some (.slice a n c)) (h : Rd .i64 w a n xs) (hn : n ≤ 1000000000) :
    Calls Try.prog 75 #[.agg #[.int .i64 p, .int .i64 q, .int .i64 y], .slice (some ⟨b, 0, none⟩) 1 1] w (fun e w' => ∃ o : Option Addr, e = .returned (.tuple #[.pointer o, .int .i64 (codeP p q y xs)]) ∧ Below w.heap.size w w' ∧
      (codeP p q y xs = 0 → ∃ G, o = some ⟨G, 0, none⟩ ∧ Tab 87 w' G (!decide (q = 1)) (fsize p q) (expT (tF p q y) (fN p q)) (logT (tF p q y) (fN p q)))) := by
  have HR := Lib.hid h
  have HB := Lib.hid (World.block_lt_of_cell? _ _ hcell)
  have HC := Lib.hid hcell
  have HS := Lib.hid (start3 w (.int .i64 p) (.int .i64 q) (.int .i64 y) 26)
  clear h hcell
  cases hf : fieldB p q y with
  | false =>
    have hr := Lib.hid (codeP_no (xs := xs) (isPolyB_no hf))
    go_enter Try.func75, Try.ntmps75
    go_wp2_with fail
    refine (calc_spec p q y _).mono ?_
    unfold CalcRes
    rw [hf]
    rintro e w1 ⟨o, rfl, hb1, -⟩
    have hB := bt HS.out.1 hb1
    go_wp2_with fail
    go_ret2
    exact ⟨none, by rw [hr.out]; rfl, hB, fun hz => by rw [hr.out] at hz; omega⟩
  | true =>
    have HF := Lib.hid hf
    have hbd := fsize_bd hf
    go_enter Try.func75, Try.ntmps75
    go_wp2_with fail
    refine (calc_spec p q y _).mono ?_
    unfold CalcRes
    rw [hf]
    clear hf
    rintro e w1 ⟨o, rfl, hb1, hG⟩
    obtain ⟨G, rfl, hG1, htab⟩ := hG rfl
    have hB := bt HS.out.1 hb1
    have hcl := (hB.cell (p := ⟨b, 0, none⟩) HB.out).trans HC.out
    have hsz := htab.size_
    have HT := Lib.hid htab
    have hR1 := HR.out.to hB
    clear hb1 htab hG hG1
    go_wp2_with fail
    go_loopw [19] (fun i wr => ∃ j m : Nat, j ≤ 1 ∧ i = .int .i64 (j : Int) ∧ Hid (j = 1 → polyB (fsize p q) xs = true) ∧ wr = w1.drewN m) (fun i _ => 1 - (intOf i).toNat)
    case atStart => exact ⟨0, 0, by omega, rfl, Lib.hid (fun h => by omega), rfl⟩
    case round =>
      obtain ⟨j, m, hj, rfl, hj1, rfl⟩ := hrel
      have hD : Below w1.heap.size w1 (w1.drewN m) := below_drewN (Below.refl _ _) m
      by_cases hj0 : j = 1
      · subst hj0
        have hr := Lib.hid (codeP_yes ((isPolyB_yes HF.out).trans (hj1.out rfl)))
        go_wp2_with fail
        go_ret2
        exact ⟨_, by rw [hr.out]; rfl, bt hB hD, fun _ => ⟨G, rfl, HT.out.to hD⟩⟩
      · obtain rfl : j = 0 := by omega
        have HI := Lib.hid (isOver_any G (fsize p q) a n c xs (w1.drewN m) hbd (by simpa using hsz) (hR1.to hD) hn)
        cases hwb : polyB (fsize p q) xs with
        | false =>
          have hr := Lib.hid (codeP_no ((isPolyB_yes HF.out).trans hwb))
          rw [hwb] at HI
          go_wp2_with fail
          refine HI.out.mono ?_
          rintro e w2 ⟨rfl, m2, rfl⟩
          go_wp2_with fail
          go_ret2
          exact ⟨none, by rw [hr.out]; rfl, bt hB (below_drewN (Below.refl _ _) _), fun hz => by rw [hr.out] at hz; omega⟩
        | true =>
          rw [hwb] at HI
          go_wp2_with fail
          refine HI.out.mono ?_
          rintro e w2 ⟨rfl, m2, rfl⟩
          go_wp2_with fail
          exact ⟨⟨1, m + m2, by omega, by go_num, Lib.hid (fun _ => trivial), rfl⟩, by simp [intOf]⟩
theorem fsize_one (p : Int) : fsize p 1 = p := rfl
theorem timesR_in {p q y a k : Int} (h : fieldB p q y = true) (ha : 0 ≤ a ∧ a ≤ fsize p q - 1) : 0 ≤ timesR p q a k ∧ timesR p q a k ≤ fsize p q - 1 := by
  have hbd := fsize_bd h
  unfold timesR
  by_cases hq : q = 1
  · subst hq
    rw [if_pos rfl]
    rw [fsize_one] at *
    have h1 := Int.emod_nonneg (a * (k % p)) (show p ≠ 0 by omega)
    have h2 := Int.emod_lt_of_pos (a * (k % p)) (show 0 < p by omega)
    omega
  · rw [if_neg hq]
    have h1 := Int.emod_nonneg k (show (2 : Int) ≠ 0 by decide)
    have h2 := Int.emod_lt_of_pos k (show (0 : Int) < 2 by decide)
    rcases (show k % 2 = 0 ∨ k % 2 = 1 by omega) with h | h <;> rw [h] <;> omega
theorem l03Times_any (p q y a k : Int) (w : World) (h : fieldB p q y = true) (ha : 0 ≤ a ∧ a ≤ fsize p q - 1) (hk : 0 ≤ k ∧ k ≤ 1000) :
    Calls Try.prog 112 #[.agg #[.int .i64 p, .int .i64 q, .int .i64 y], .int .i64 a, .int .i64 k] w (RetB (.int .i64 (timesR p q a k)) w) := by
  have hbd := fsize_bd h
  by_cases hq : q = 1
  · subst hq
    have hr := Lib.hid (show timesR p 1 a k = a * (k % p) % p from rfl)
    rw [fsize_one] at *
    have h1 := Int.emod_nonneg k (show p ≠ 0 by omega)
    have h2 := Int.emod_lt_of_pos k (show 0 < p by omega)
    have hm1 : 0 ≤ a * (k % p) := Int.mul_nonneg ha.1 h1
    have hm2 : a * (k % p) ≤ 1021 * 1021 := Int.mul_le_mul (by omega) (by omega) h1 (by omega)
    obtain ⟨hp1, hp2⟩ := hbd
    obtain ⟨hk1, hk2⟩ := hk
    have e1 : k.tmod p = k % p := Int.tmod_eq_emod_of_nonneg hk1
    obtain ⟨K, hK⟩ : ∃ K, k % p = K := ⟨_, rfl⟩
    rw [hK] at hr e1 h1 h2 hm1 hm2
    have e2 : IntKind.i64.wrap (a * K) = a * K := IntWalk.i64_in _ (by omega)
    have e3 : (a * K).tmod p = a * K % p := Int.tmod_eq_emod_of_nonneg hm1
    have e4 : ¬ p = 0 := by omega
    clear h ha hK
    go_enter Try.func112, Try.ntmps112
    go_wp2
    go_quiet (fail)
    go_wp2
    go_ret
    exact ⟨ret_int hr.out.symm, below_drewN (Below.alloc (Below.refl _ _) (Nat.le_refl _) _) _⟩
  · have hr := Lib.hid (show timesR p q a k = a * (k % 2) by unfold timesR; rw [if_neg hq])
    have hb : (q == 1) = false := by rw [beq_eq_false_iff_ne]; exact hq
    have hm : 0 ≤ a * (k % 2) ∧ a * (k % 2) ≤ 1021 := by
      rcases (show k % 2 = 0 ∨ k % 2 = 1 by omega) with h | h <;> rw [h] <;> omega
    obtain ⟨hm1, hm2⟩ := hm
    obtain ⟨hk1, hk2⟩ := hk
    clear hq h ha hbd
    go_enter Try.func112, Try.ntmps112
    go_wp2
    go_ret
    exact ⟨ret_int hr.out.symm, Below.alloc (Below.refl _ _) (Nat.le_refl _) _⟩
set_option maxRecDepth 20000 in
theorem l03Trim_any (a : Option Addr) (n c : Nat) (xs : List Int) (w : World) (h : Rd .i64 w a n xs) (hn : n ≤ 1000000) (hcap : n ≤ c ∧ c ≤ 9223372036854775807) :
    Calls Try.prog 113 #[.slice a n c] w (RetRow .i64 2 (trimL xs) w) := by
  have HL := Lib.hid h.len
  obtain ⟨hc1, hc2⟩ := hcap
  go_enter Try.func113, Try.ntmps113
  go_wp2
  go_loop [3] (fun v => ∃ j : Nat, j ≤ n ∧ v = .int .i64 (j : Int) ∧ Hid (trimN xs j = trimN xs n)) (fun v => (intOf v).toNat)
  case atStart => exact ⟨n, Nat.le_refl _, rfl, rfl⟩
  case round =>
    obtain ⟨j, hj, rfl, ht⟩ := hrel
    by_cases h0 : j = 0
    · subst h0
      have hr := Lib.hid (show 0 = trimN xs n from ht.out)
      go_wp2_with fail
      refine (l01Own_any _ 0 c (xs.take 0) _ (h.front (by omega)) (by omega)).mono ?_
      rintro e w2 ⟨a2, n2, c2, rfl, ho2, hb2⟩
      go_wp2_with fail
      go_ret
      exact ⟨a2, n2, c2, rfl, by unfold trimL; rw [HL.out, ← hr.out]; exact ho2, hb2⟩
    · obtain ⟨i, hi⟩ : ∃ i, j = i + 1 := ⟨j - 1, by omega⟩
      obtain ⟨b, o, x, rfl, -, hcell, hx, hx1, hx2⟩ := h.at_ (show i < n by omega)
      have hj0 : 0 < (j : Int) := by omega
      have hw1 : IntKind.i64.wrap ((j : Int) - 1) = (i : Int) := (IntWalk.i64_in _ (by omega)).trans (by omega)
      have b1 : (0 : Int) ≤ (i : Int) := by omega
      have b2 : (i : Int) < (n : Int) := by omega
      by_cases hz : x = 0
      · have hs := Lib.hid ((trimN_zero (by rw [← hz]; exact hx.out)).symm.trans ((show trimN xs (i + 1) = trimN xs n by rw [← hi]; exact ht.out)))
        have hzb : (x == 0) = true := by rw [beq_iff_eq]; exact hz
        have hle : i ≤ n := by omega
        have hlt : i < j := by omega
        clear hz hi h0
        go_wp2
        go_round
        case rel => exact ⟨i, hle, rfl, hs⟩
        case measure => simp [intOf]; omega
      · have hr := Lib.hid (show j = trimN xs n by rw [← ht.out, hi, trimN_stop hx.out hz])
        have hzb : (x == 0) = false := by rw [beq_eq_false_iff_ne]; exact hz
        clear hz hi h0
        go_wp2_with fail
        refine (l01Own_any _ j c (xs.take j) _ (h.front (by omega)) (by omega)).mono ?_
        rintro e w2 ⟨a2, n2, c2, rfl, ho2, hb2⟩
        go_wp2_with fail
        go_ret
        exact ⟨a2, n2, c2, rfl, by unfold trimL; rw [HL.out, ← hr.out]; exact ho2, hb2⟩
set_option maxRecDepth 20000 in
theorem trim_any (a : Option Addr) (n c : Nat) (xs : List Int) (w : World) (h : Rd .i64 w a n xs) (hn : n ≤ 1000000) (hcap : n ≤ c ∧ c ≤ 9223372036854775807) :
    Calls Try.prog 76 #[.slice a n c] w (RetS (.slice a (trimN xs n) c) w) := by
  have HL := Lib.hid h.len
  obtain ⟨hc1, hc2⟩ := hcap
  go_enter Try.func76, Try.ntmps76
  go_wp2
  go_loop [3] (fun v => ∃ j : Nat, j ≤ n ∧ v = .int .i64 (j : Int) ∧ Hid (trimN xs j = trimN xs n)) (fun v => (intOf v).toNat)
  case atStart => exact ⟨n, Nat.le_refl _, rfl, rfl⟩
  case round =>
    obtain ⟨j, hj, rfl, ht⟩ := hrel
    by_cases h0 : j = 0
    · subst h0
      have hr := Lib.hid (show 0 = trimN xs n from ht.out)
      go_wp2
      go_ret
      exact ⟨congrArg (fun m => Ending.returned (.slice _ m _)) hr.out, rfl⟩
    · obtain ⟨i, hi⟩ : ∃ i, j = i + 1 := ⟨j - 1, by omega⟩
      obtain ⟨b, o, x, rfl, -, hcell, hx, hx1, hx2⟩ := h.at_ (show i < n by omega)
      have hj0 : 0 < (j : Int) := by omega
      have hw1 : IntKind.i64.wrap ((j : Int) - 1) = (i : Int) := (IntWalk.i64_in _ (by omega)).trans (by omega)
      have b1 : (0 : Int) ≤ (i : Int) := by omega
      have b2 : (i : Int) < (n : Int) := by omega
      by_cases hz : x = 0
      · have hs := Lib.hid ((trimN_zero (by rw [← hz]; exact hx.out)).symm.trans ((show trimN xs (i + 1) = trimN xs n by rw [← hi]; exact ht.out)))
        have hzb : (x == 0) = true := by rw [beq_iff_eq]; exact hz
        have hle : i ≤ n := by omega
        have hlt : i < j := by omega
        clear hz hi h0
        go_wp2
        go_round
        case rel => exact ⟨i, hle, rfl, hs⟩
        case measure => simp [intOf]; omega
      · have hr := Lib.hid (show j = trimN xs n by rw [← ht.out, hi, trimN_stop hx.out hz])
        have hzb : (x == 0) = false := by rw [beq_eq_false_iff_ne]; exact hz
        clear hz hi h0
        go_wp2
        go_ret
        exact ⟨congrArg (fun m => Ending.returned (.slice _ m _)) hr.out, rfl⟩
end Go.Proofs.Ytjdnaoidlblciaa
