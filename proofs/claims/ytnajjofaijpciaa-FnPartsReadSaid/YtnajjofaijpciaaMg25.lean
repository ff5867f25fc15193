/-
  Texts of the proof, one behind the other: each bears its own heading.
  Conditions: as the headings say.
-/
import Derived.Test.YtnajjofaijpciaaMg24
import Derived.Test.YtnajjofaijpciaaMg23
import Derived.Test.YtnajjofaijpciaaMg1
import Derived.Test.YtnajjofaijpciaaMg2
/-
  Contracts: the bits of elements, by the reference and by the program.
  Conditions: none.
-/
set_option linter.unusedVariables false
namespace Go.Proofs.Ytnajjofaijpciaa
open Go.RowKit Go.G8
def bitsL (xs : List Int) (wd : Nat) : List Int := xs.flatMap (fun x => lowBits x wd)
theorem bitsL_snoc (xs : List Int) (x : Int) (wd : Nat) : bitsL (xs ++ [x]) wd = bitsL xs wd ++ lowBits x wd := by simp [bitsL]
theorem bitsL_length (xs : List Int) (wd : Nat) : (bitsL xs wd).length = wd * xs.length := by
  induction xs with
  | nil => simp [bitsL]
  | cons x xs ih =>
    unfold bitsL at *
    rw [List.flatMap_cons, List.length_append, lowBits_length, ih, List.length_cons, Nat.mul_succ]
    omega
theorem bitsL_bit (xs : List Int) (wd : Nat) : ∀ x ∈ bitsL xs wd, x = 0 ∨ x = 1 := by
  intro x hx
  simp only [bitsL, List.mem_flatMap] at hx
  obtain ⟨y, _, h⟩ := hx
  exact lowBits_bit y wd x h
def lowB (wd : Nat) (xs : List Int) : Bool := xs.all (fun x => decide (x < 2 ^ wd))
theorem lowB_bad {wd : Nat} {xs : List Int} {k : Nat} {x : Int} (hx : xs[k]? = some x) (h : ¬ x < 2 ^ wd) : lowB wd xs = false := by
  rw [Bool.eq_false_iff]
  intro e
  have := List.all_eq_true.1 e x (List.mem_of_getElem? hx)
  simp only [decide_eq_true_eq] at this
  exact h this
theorem lowB_snoc {wd : Nat} {xs : List Int} {k : Nat} {x : Int} (hx : xs[k]? = some x) (h : lowB wd (xs.take k) = true) (hi : x < 2 ^ wd) : lowB wd (xs.take (k + 1)) = true := by
  unfold lowB at *
  rw [take_snoc hx, List.all_append, h]
  simp [hi]
def codeE (p q y : Int) (xs : List Int) : Int := if fieldB p q y then (if (1 ≤ xs.length ∧ xs.length ≤ 1500) ∧ allF (fsize p q) xs = true then 0 else 2) else 1
def rElementBits (p q y : Int) (xs : List Int) : List Int × Int :=
  if codeE p q y xs = 0 then (if xs.length * wOf (fsize p q) ≤ 8192 then (if lowB (wOf (fsize p q)) xs then (bitsL xs (wOf (fsize p q)), 0) else ([], 6)) else ([], 3)) else ([], codeE p q y xs)
theorem codeE_f {p q y : Int} {xs : List Int} (h : fieldB p q y = false) : codeE p q y xs = 1 := by unfold codeE; rw [h]; rfl
theorem codeE_l {p q y : Int} {xs : List Int} (h : fieldB p q y = true) (hl : ¬ (1 ≤ xs.length ∧ xs.length ≤ 1500)) : codeE p q y xs = 2 := by unfold codeE; rw [h, if_pos rfl, if_neg (fun c => hl c.1)]
theorem codeE_a {p q y : Int} {xs : List Int} (h : fieldB p q y = true) (hl : allF (fsize p q) xs = false) : codeE p q y xs = 2 := by unfold codeE; rw [h, if_pos rfl, if_neg (fun c => by rw [hl] at c; exact absurd c.2 (by simp))]
theorem codeE_ok {p q y : Int} {xs : List Int} (h : fieldB p q y = true) (hl : 1 ≤ xs.length ∧ xs.length ≤ 1500) (ha : allF (fsize p q) xs = true) : codeE p q y xs = 0 := by unfold codeE; rw [h, if_pos rfl, if_pos ⟨hl, ha⟩]
theorem codeE_zero {p q y : Int} {xs : List Int} (h : codeE p q y xs = 0) : fieldB p q y = true ∧ (1 ≤ xs.length ∧ xs.length ≤ 1500) ∧ allF (fsize p q) xs = true := by
  unfold codeE at h
  split at h
  · rename_i h1
    split at h
    · rename_i h2; exact ⟨h1, h2⟩
    · omega
  · omega
theorem rElementBits_bad {p q y : Int} {xs : List Int} (h : codeE p q y xs ≠ 0) : rElementBits p q y xs = ([], codeE p q y xs) := by unfold rElementBits; rw [if_neg h]
theorem rElementBits_long {p q y : Int} {xs : List Int} {wd : Nat} (h : codeE p q y xs = 0) (hw : wOf (fsize p q) = wd) (h2 : ¬ xs.length * wd ≤ 8192) : rElementBits p q y xs = ([], 3) := by unfold rElementBits; rw [if_pos h, hw, if_neg h2]
theorem rElementBits_high {p q y : Int} {xs : List Int} {wd : Nat} (h : codeE p q y xs = 0) (hw : wOf (fsize p q) = wd) (h2 : xs.length * wd ≤ 8192) (h3 : lowB wd xs = false) : rElementBits p q y xs = ([], 6) := by unfold rElementBits; rw [if_pos h, hw, if_pos h2, h3]; rfl
theorem rElementBits_ok1 {p q y : Int} {xs : List Int} {wd : Nat} (h : codeE p q y xs = 0) (hw : wOf (fsize p q) = wd) (h2 : xs.length * wd ≤ 8192) (h3 : lowB wd xs = true) : rElementBits p q y xs = (bitsL xs wd, 0) := by unfold rElementBits; rw [if_pos h, hw, if_pos h2, h3]; rfl
theorem rElementBits_ok (p q y : Int) (xs : List Int) : (rElementBits p q y xs).1.length ≤ 1000000 ∧ ∀ x ∈ (rElementBits p q y xs).1, fits .i64 x := by
  unfold rElementBits
  split
  · split
    · rename_i h2
      split
      · refine ⟨by rw [bitsL_length, Nat.mul_comm]; omega, fun x hx => ?_⟩
        have := bitsL_bit _ _ x hx
        show -9223372036854775808 ≤ x ∧ x ≤ 9223372036854775807
        omega
      · simp
    · simp
  · simp
theorem allF_nn {s : Int} {xs : List Int} (h : allF s xs = true) : ∀ x ∈ xs, 0 ≤ x ∧ x ≤ s - 1 := by
  intro x hx
  have := List.all_eq_true.1 h x hx
  simpa [inF] using this
theorem pow_shl {k : Nat} (hk : k ≤ 9) : wrap64 ((2 : Int) ^ k) = 2 ^ k ∧ (1 : Int) ≤ 2 ^ k ∧ (2 : Int) ^ k ≤ 512 := by
  have e : ((2 ^ k : Nat) : Int) = (2 : Int) ^ k := Int.natCast_pow 2 _
  have h1 : 2 ^ k ≤ 2 ^ 9 := Nat.pow_le_pow_right (by decide) hk
  have h2 : 0 < 2 ^ k := Nat.pow_pos (by decide)
  rw [← e]
  unfold wrap64
  omega
theorem l11Capacity_any (n : Int) (w : World) : Calls Try.prog 73 #[.int .i64 n] w (RetS (.bool (decide (1 ≤ n ∧ n ≤ 1500))) w) := by
  by_cases h : 1 ≤ n ∧ n ≤ 1500
  · rw [decide_eq_true h]
    go_enter Try.func73, Try.ntmps73
    go_wp2_with fail
    refine (l01In_yes n 1 1500 _ h).mono ?_
    rintro e w' ⟨rfl, rfl⟩
    go_wp2_with fail
    go_ret
    exact ⟨rfl, rfl⟩
  · rw [decide_eq_false h]
    go_enter Try.func73, Try.ntmps73
    go_wp2_with fail
    refine (l01In_no n 1 1500 _ h).mono ?_
    rintro e w' ⟨rfl, rfl⟩
    go_wp2_with fail
    go_ret
    exact ⟨rfl, rfl⟩
set_option maxRecDepth 20000 in
theorem l11Code_any (p q y : Int) (a : Option Addr) (n c : Nat) (xs : List Int) (w : World) (h : Rd .i64 w a n xs) (hn : n ≤ 1000000000) :
    Calls Try.prog 60 #[.agg #[.int .i64 p, .int .i64 q, .int .i64 y], .slice a n c] w (RetB (.int .i64 (codeE p q y xs)) w) := by
  have HL := Lib.hid h.len
  have HR := Lib.hid h
  clear h
  cases hf : fieldB p q y with
  | false =>
    have hr := Lib.hid (codeE_f (xs := xs) hf)
    go_enter Try.func60, Try.ntmps60
    go_wp2_with fail
    refine (isField_spec p q y _).mono ?_
    rw [hf]
    rintro e w1 ⟨rfl, hb1⟩
    have hB := bt (Below.alloc (Below.refl w.heap.size w) (Nat.le_refl _) _) hb1
    go_wp2_with fail
    go_ret
    exact ⟨ret_int hr.out.symm, hB⟩
  | true =>
    have HH := Lib.hid (start3 w (.int .i64 p) (.int .i64 q) (.int .i64 y) 36)
    go_enter Try.func60, Try.ntmps60
    go_wp2_with fail
    refine (isField_spec p q y _).mono ?_
    rw [hf]
    rintro e w1 ⟨rfl, hb1⟩
    obtain ⟨hw0, hlt, d0, d1, d2⟩ := HH.out
    obtain ⟨hcc, hff⟩ := bcell hb1
    replace d0 := (hcc _ 0 hlt).trans d0
    replace d1 := (hcc _ 1 hlt).trans d1
    replace d2 := (hcc _ 2 hlt).trans d2
    have hB := bt hw0 hb1
    have hR1 := HR.out.to hB
    clear hcc hff hb1 hw0 hlt
    go_wp2_with fail
    by_cases hl : 1 ≤ n ∧ n ≤ 1500
    · refine (l11Capacity_any n _).mono ?_
      rw [decide_eq_true (show (1 : Int) ≤ (n : Int) ∧ (n : Int) ≤ 1500 by omega)]
      rintro e w' ⟨rfl, rfl⟩
      go_wp2_with fail
      refine (l02Is_any p q y a n c xs _ hf hR1 hn).mono ?_
      cases ha : allF (fsize p q) xs with
      | false =>
        have hr := Lib.hid (codeE_a hf ha)
        rintro e w2 ⟨rfl, hb2⟩
        go_wp2_with fail
        go_ret
        exact ⟨ret_int hr.out.symm, bt hB hb2⟩
      | true =>
        have hr := Lib.hid (codeE_ok hf (by rw [HL.out]; exact hl) ha)
        rintro e w2 ⟨rfl, hb2⟩
        go_wp2_with fail
        go_ret
        exact ⟨ret_int hr.out.symm, bt hB hb2⟩
    · have hr := Lib.hid (codeE_l hf (by rw [HL.out]; exact hl))
      refine (l11Capacity_any n _).mono ?_
      rw [decide_eq_false (show ¬ ((1 : Int) ≤ (n : Int) ∧ (n : Int) ≤ 1500) by omega)]
      rintro e w' ⟨rfl, rfl⟩
      go_wp2_with fail
      go_ret
      exact ⟨ret_int hr.out.symm, hB⟩
set_option maxHeartbeats 1000000 in
set_option maxRecDepth 20000 in
theorem specElementBits_any (p q y : Int) (a : Option Addr) (n c : Nat) (xs : List Int) (w : World) (h : Rd .i64 w a n xs) (hn : n ≤ 1000000000) :
    Calls Try.prog 35 #[.agg #[.int .i64 p, .int .i64 q, .int .i64 y], .slice a n c] w (RetRow2 .i64 2 (rElementBits p q y xs).1 (.int .i64 (rElementBits p q y xs).2) w) := by
  have HL := Lib.hid h.len
  have HR := Lib.hid h
  clear h
  have HH := Lib.hid (start3 w (.int .i64 p) (.int .i64 q) (.int .i64 y) 36)
  by_cases hz : codeE p q y xs = 0
  · have hv := codeE_zero hz
    have hl := hv.2.1
    rw [HL.out] at hl
    obtain ⟨hl1, hl2⟩ := hl
    have HV := Lib.hid hv
    have HZ := Lib.hid hz
    have hbd := fsize_bd hv.1
    have HD := Lib.hid (wOf_bd hbd.1 hbd.2)
    have HWd := Lib.hid (fun w => l11Width_any p q y w hv.1)
    clear hz hv hbd
    go_enter Try.func35, Try.ntmps35
    go_wp2_with fail
    obtain ⟨hw0, hlt, d0, d1, d2⟩ := HH.out
    refine (l11Code_any p q y a n c xs _ (HR.out.to hw0) hn).mono ?_
    rw [HZ.out]
    rintro e w1 ⟨rfl, hb1⟩
    obtain ⟨hcc, hff⟩ := bcell hb1
    replace d0 := (hcc _ 0 hlt).trans d0
    replace d1 := (hcc _ 1 hlt).trans d1
    replace d2 := (hcc _ 2 hlt).trans d2
    have hB := bt hw0 hb1
    clear hcc hff hb1 hw0 hlt
    go_wp2_with fail
    refine (HWd.out _).mono ?_
    obtain ⟨wd, hwd⟩ : ∃ wd, wOf (fsize p q) = wd := ⟨_, rfl⟩
    have hw9 := HD.out
    rw [hwd] at hw9 ⊢
    have hw1 := hw9.1
    have hw2 := hw9.2.1
    clear hw9
    rintro e w2 ⟨rfl, hb2⟩
    have hB2 := bt hB hb2
    have hB2s := hB2.size
    clear hb2 hB d0 d1 d2
    have hmb : n * wd ≤ 1500 * 9 := Nat.mul_le_mul hl2 hw2
    have hcast : (n : Int) * (wd : Int) = ((n * wd : Nat) : Int) := (Int.natCast_mul n wd).symm
    by_cases hlong : n * wd ≤ 8192
    · have hll : (n : Int) * (wd : Int) ≤ 8192 := by omega
      have hl0 : (0 : Int) ≤ (n : Int) * (wd : Int) := by omega
      have HLo := Lib.hid hlong
      clear hcast hmb hlong
      obtain ⟨hp0, hp1, hp2⟩ := pow_shl (k := wd) (by omega)
      go_wp2_with fail
      go_loopw [8, 9] (fun o i wr => ∃ (a' : Option Addr) (n' c' k : Nat), k ≤ n ∧ n' ≤ 9 * k ∧ i = .int .i64 (k : Int) ∧ o = .slice a' n' c' ∧ Ow .i64 2 w.heap.size wr a' n' c' (bitsL (xs.take k) wd) ∧ Hid (lowB wd (xs.take k) = true) ∧ Below w.heap.size w wr) (fun _ i _ => n - (intOf i).toNat)
      case atStart => exact ⟨_, 0, _, 0, Nat.zero_le _, Nat.zero_le _, rfl, rfl, Ow.empty _ _ _ w2 hB2s, rfl, hB2.alloc hB2s _⟩
      case round =>
        clear hB2 hB2s
        obtain ⟨a', n', c', k, hk, hn', rfl, rfl, hown, hlow, hbel⟩ := hrel
        have hBr := hbel.size
        have hR := HR.out.to hbel
        by_cases hlt : k < n
        · obtain ⟨b, o, x, rfl, -, hc, hx, hx1, hx2⟩ := hR.at_ hlt
          have hxn := (allF_nn HV.out.2.2 x (List.mem_of_getElem? hx.out)).1
          by_cases hhi : x < 2 ^ wd
          · have HS := Lib.hid (lowB_snoc hx.out hlow.out hhi)
            have HT := Lib.hid (show bitsL (xs.take (k + 1)) wd = bitsL (xs.take k) wd ++ lowBits x wd by rw [take_snoc hx.out, bitsL_snoc])
            go_wp2_with fail
            refine (l01Append_any a' n' c' (bitsL (xs.take k) wd) x wd _ (hown.rd (fun z hz => by have := bitsL_bit _ _ z hz; show -9223372036854775808 ≤ z ∧ z ≤ 9223372036854775807; omega)) (by omega) ⟨hx1, hx2⟩ (by omega) (by omega)).mono ?_
            rintro e w3 ⟨a3, n3, c3, rfl, ho3, hb3⟩
            rw [Int.toNat_natCast, ← HT.out] at ho3
            have hn3 : n3 ≤ 9 * (k + 1) := by
              have e1 := ho3.len
              rw [HT.out, List.length_append, lowBits_length, hown.len] at e1
              omega
            go_wp2_with fail
            exact ⟨⟨a3, n3, c3, k + 1, by omega, hn3, by go_num, rfl, ho3.more hBr, HS, bt hbel hb3⟩, by simp [intOf]; omega⟩
          · have hr := Lib.hid (rElementBits_high HZ.out hwd (by rw [HL.out]; exact HLo.out) (lowB_bad hx.out hhi))
            have hge : (2 : Int) ^ wd ≤ x := by omega
            clear hhi
            go_wp2_with fail
            go_ret2
            exact retRow2_nil hr.out hbel
        · obtain rfl : k = n := by omega
          have hfull := Lib.hid (List.take_of_length_le (l := xs) (i := k) (by rw [HL.out]; exact Nat.le_refl _))
          rw [hfull.out] at hown hlow
          have hr := Lib.hid (rElementBits_ok1 HZ.out hwd (by rw [HL.out]; exact HLo.out) hlow.out)
          go_wp2_with fail
          go_ret2
          exact retRow2_of hr.out hown hbel
    · have hr := Lib.hid (rElementBits_long HZ.out hwd (by rw [HL.out]; exact hlong))
      have hll : 8192 < (n : Int) * (wd : Int) := by omega
      have hl3 : (n : Int) * (wd : Int) ≤ 13500 := by omega
      clear hcast hmb hlong
      go_wp2_with fail
      go_ret2
      exact retRow2_nil hr.out hB2
  · have hr := Lib.hid (rElementBits_bad hz)
    obtain ⟨cd, hcd⟩ : ∃ cd, codeE p q y xs = cd := ⟨_, rfl⟩
    have HZ := Lib.hid hcd
    rw [hcd] at hz hr
    clear hcd
    have hne : (cd != 0) = true := by rw [bne_iff_ne]; exact hz
    clear hz
    go_enter Try.func35, Try.ntmps35
    go_wp2_with fail
    obtain ⟨hw0, hlt, d0, d1, d2⟩ := HH.out
    refine (l11Code_any p q y a n c xs _ (HR.out.to hw0) hn).mono ?_
    rw [HZ.out]
    rintro e w1 ⟨rfl, hb1⟩
    clear d0 d1 d2
    go_wp2_with fail
    go_ret2
    exact retRow2_nil hr.out (bt hw0 hb1)
theorem shr_zero {x : Int} {k : Nat} (h0 : 0 ≤ x) (h : x < 2 ^ k) : (x / 2 ^ k != 0) = false := by
  rw [bne_eq_false_iff_eq]; exact Int.ediv_eq_zero_of_lt h0 h
theorem shr_not {x : Int} {k : Nat} (h : ¬ x < 2 ^ k) : (x / 2 ^ k != 0) = true := by
  rw [bne_iff_ne]
  intro e
  have hp : (0 : Int) < 2 ^ k := Int.pow_pos (by decide)
  have h1 : 1 ≤ x / 2 ^ k := Int.le_ediv_of_mul_le hp (by omega)
  omega
set_option maxHeartbeats 1000000 in
set_option maxRecDepth 20000 in
theorem elementBits_any (p q y : Int) (a : Option Addr) (n c : Nat) (xs : List Int) (w : World) (h : Rd .i64 w a n xs) (hn : n ≤ 1000000000) :
    Calls Try.prog 37 #[.agg #[.int .i64 p, .int .i64 q, .int .i64 y], .slice a n c] w (RetRow2 .i64 2 (rElementBits p q y xs).1 (.int .i64 (rElementBits p q y xs).2) w) := by
  obtain ⟨i0, hi, hz0, hz1, hz2⟩ := info_parts info_int64
  have HL := Lib.hid h.len
  have HR := Lib.hid h
  clear h
  cases hf : fieldB p q y with
  | false =>
    have hcf := codeE_f (xs := xs) hf
    have hr := Lib.hid ((rElementBits_bad (xs := xs) (by rw [hcf]; omega)).trans (by rw [hcf]))
    clear hcf
    go_enter Try.func37, Try.ntmps37
    go_wp2_with fail
    refine (calc_spec p q y _).mono ?_
    unfold CalcRes
    rw [hf]
    rintro e w1 ⟨o, rfl, hb1, -⟩
    have hB := bt (Below.alloc (Below.refl w.heap.size w) (Nat.le_refl _) _) hb1
    go_wp2_with fail
    go_ret2
    exact retRow2_nil hr.out hB
  | true =>
    have hbd := fsize_bd hf
    have HD := Lib.hid (wOf_bd hbd.1 hbd.2)
    go_enter Try.func37, Try.ntmps37
    go_wp2_with fail
    refine (calc_spec p q y _).mono ?_
    unfold CalcRes
    rw [hf]
    rintro e w1 ⟨o, rfl, hb1, hG⟩
    obtain ⟨G, rfl, hG1, htab⟩ := hG rfl
    have hB := bt (Below.alloc (Below.refl w.heap.size w) (Nat.le_refl _) _) hb1
    have hR1 := HR.out.to hB
    have hsz := htab.size_
    have hlt := htab.lt
    clear hb1 hG htab hG1
    go_wp2_with fail
    by_cases hl : 1 ≤ n ∧ n ≤ 1500
    · refine (inRange_yes n 1 1500 _ (by omega)).mono ?_
      rintro e w' ⟨rfl, rfl⟩
      go_wp2_with fail
      refine (hasAll_any G (fsize p q) a n c xs _ hbd hsz hR1 hn).mono ?_
      obtain ⟨hl1, hl2⟩ := hl
      cases ha : allF (fsize p q) xs with
      | false =>
        have hcf := codeE_a hf ha
        have hr := Lib.hid ((rElementBits_bad (xs := xs) (by rw [hcf]; omega)).trans (by rw [hcf]))
        clear hcf
        rintro e w' ⟨rfl, rfl⟩
        go_wp2_with fail
        go_ret2
        exact retRow2_nil hr.out hB
      | true =>
        have HZ := Lib.hid (codeE_ok hf (by rw [HL.out]; exact ⟨hl1, hl2⟩) ha)
        have HA := Lib.hid (allF_nn ha)
        rintro e w' ⟨rfl, rfl⟩
        go_wp2_with fail
        refine (calcWidth 113 G (fsize p q) _ hbd.2 hsz hlt).mono ?_
        obtain ⟨wd, hwd⟩ : ∃ wd, wOf (fsize p q) = wd := ⟨_, rfl⟩
        have hw9 := HD.out
        rw [hwd] at hw9 ⊢
        have hw1 := hw9.1
        have hw2 := hw9.2.1
        clear hw9
        rintro e w2 ⟨rfl, hb2⟩
        have hB2 := bt hB hb2
        have hB2s := hB2.size
        clear hb2 hB hsz hlt hR1 ha hbd hf
        have hmb : n * wd ≤ 1500 * 9 := Nat.mul_le_mul hl2 hw2
        have hcast : (n : Int) * (wd : Int) = ((n * wd : Nat) : Int) := (Int.natCast_mul n wd).symm
        by_cases hlong : n * wd ≤ 8192
        · have hll : (n : Int) * (wd : Int) ≤ 8192 := by omega
          have hl0 : (0 : Int) ≤ (n : Int) * (wd : Int) := by omega
          have HLo := Lib.hid hlong
          have HC := Lib.hid hcast
          clear hcast hmb hlong
          obtain ⟨hp0, hp1, hp2⟩ := pow_shl (k := wd) (by omega)
          go_wp2_with (at_make; refine wpList_make_own _ rfl _ _ 22 rfl w.heap.size 2 i0 (.int .i64 0) 1 Try.underlying22 hi hz0 hz1 .i64 .i64 _ (n * wd) rfl rfl HC.out (by rw [hz2]; have := HLo.out; omega) (by unfold maxLen; have := HLo.out; omega) hB2s ?_; intro w3 hown3 hg3)
          have hB3 := hB2.trans ((Below.refl w.heap.size w2).grown hg3 hB2s (by simp))
          clear hg3 hB2 hB2s
          go_loopw [9, 43] (fun o i wr => ∃ (a' : Option Addr) (n' c' k : Nat), k ≤ n ∧ n' ≤ 9 * k ∧ i = .int .i64 (k : Int) ∧ o = .slice a' n' c' ∧ Ow .i64 2 w.heap.size wr a' n' c' (bitsL (xs.take k) wd) ∧ Hid (lowB wd (xs.take k) = true) ∧ Below w.heap.size w wr) (fun _ i _ => n - (intOf i).toNat)
          case atStart => exact ⟨_, 0, _, 0, Nat.zero_le _, Nat.zero_le _, rfl, rfl, hown3, rfl, hB3⟩
          case round =>
            clear hB3 hown3
            obtain ⟨a', n', c', k, hk, hn', rfl, rfl, hown, hlow, hbel⟩ := hrel
            have hBr := hbel.size
            have hR := HR.out.to hbel
            by_cases hlt : k < n
            · obtain ⟨b, o, x, rfl, -, hc, hx, hx1, hx2⟩ := hR.at_ hlt
              have hxn := (HA.out x (List.mem_of_getElem? hx.out)).1
              by_cases hhi : x < 2 ^ wd
              · have HS := Lib.hid (lowB_snoc hx.out hlow.out hhi)
                have HT := Lib.hid (show bitsL (xs.take (k + 1)) wd = bitsL (xs.take k) wd ++ lowBits x wd by rw [take_snoc hx.out, bitsL_snoc])
                have hsh := shr_zero hxn hhi
                clear hhi
                go_wp2_with fail
                refine (appendNumber_any w.heap.size a' n' c' (bitsL (xs.take k) wd) x wd _ hown hBr (by omega) ⟨hx1, hx2⟩ (by omega) (by omega)).mono ?_
                rintro e w4 ⟨a3, n3, c3, rfl, ho3, hb3⟩
                rw [Int.toNat_natCast, ← HT.out] at ho3
                have hn3 : n3 ≤ 9 * (k + 1) := by
                  have e1 := ho3.len
                  rw [HT.out, List.length_append, lowBits_length, hown.len] at e1
                  omega
                go_wp2_with fail
                exact ⟨⟨a3, n3, c3, k + 1, by omega, hn3, by go_num, rfl, ho3, HS, hbel.trans hb3⟩, by simp [intOf]; omega⟩
              · have hr := Lib.hid (rElementBits_high HZ.out hwd (by rw [HL.out]; exact HLo.out) (lowB_bad hx.out hhi))
                have hsh := shr_not hhi
                clear hhi
                go_wp2_with fail
                go_ret2
                exact retRow2_nil hr.out hbel
            · obtain rfl : k = n := by omega
              have hfull := Lib.hid (List.take_of_length_le (l := xs) (i := k) (by rw [HL.out]; exact Nat.le_refl _))
              rw [hfull.out] at hown hlow
              have hr := Lib.hid (rElementBits_ok1 HZ.out hwd (by rw [HL.out]; exact HLo.out) hlow.out)
              go_wp2_with fail
              go_ret2
              exact retRow2_of hr.out hown hbel
        · have hr := Lib.hid (rElementBits_long HZ.out hwd (by rw [HL.out]; exact hlong))
          have hll : 8192 < (n : Int) * (wd : Int) := by omega
          have hl3 : (n : Int) * (wd : Int) ≤ 13500 := by omega
          clear hcast hmb hlong
          go_wp2_with fail
          go_ret2
          exact retRow2_nil hr.out hB2
    · have hcf := codeE_l (xs := xs) hf (by rw [HL.out]; exact hl)
      have hr := Lib.hid ((rElementBits_bad (xs := xs) (by rw [hcf]; omega)).trans (by rw [hcf]))
      clear hcf
      refine (inRange_no n 1 1500 _ (by omega)).mono ?_
      rintro e w' ⟨rfl, rfl⟩
      go_wp2_with fail
      go_ret2
      exact retRow2_nil hr.out hB
end Go.Proofs.Ytnajjofaijpciaa
/-
  Contracts: PayloadSegments and DecodePayload on both sides.
  Conditions: lists of at most 1048576 numbers.
-/
set_option linter.unusedVariables false
namespace Go.Proofs.Ytnajjofaijpciaa
open Go.RowKit Go.G8
theorem fits_bit {x : Int} (h : x = 0 ∨ x = 1) : fits .i64 x := by
  unfold fits
  simp
  omega
def bitL (xs : List Int) : Prop := xs.length ≤ 8192 ∧ ∀ x ∈ xs, x = 0 ∨ x = 1
theorem lowBits_bits (x : Int) (k : Nat) : ∀ b ∈ lowBits x k, b = 0 ∨ b = 1 := by
  induction k with
  | zero => intro b hb; simp [lowBits] at hb
  | succ k ih =>
    intro b hb
    simp [lowBits] at hb
    rcases hb with rfl | hb
    · omega
    · exact ih b hb
theorem bitsL_bits (xs : List Int) (k : Nat) : ∀ b ∈ bitsL xs k, b = 0 ∨ b = 1 := by
  induction xs with
  | nil => intro b hb; simp [bitsL] at hb
  | cons x xs ih =>
    intro b hb
    simp [bitsL] at hb
    rcases hb with hb | hb
    · exact lowBits_bits x k b hb
    · exact ih b (by simpa [bitsL] using hb)
theorem rElementBits_bits (p q y : Int) (xs : List Int) : bitL (rElementBits p q y xs).1 := by
  unfold rElementBits
  split
  · split
    · split
      · exact ⟨by rw [bitsL_length, Nat.mul_comm]; omega, bitsL_bits _ _⟩
      · exact ⟨by simp, fun x hx => by cases hx⟩
    · exact ⟨by simp, fun x hx => by cases hx⟩
  · exact ⟨by simp, fun x hx => by cases hx⟩
/-- What PayloadSegments answers. -/
def rPay (p q y : Int) (xs : List Int) : List SegV × Int :=
  if (rElementBits p q y xs).2 = 0 then segsL (rElementBits p q y xs).1 ((rElementBits p q y xs).1.length + 1) 0 0 [] else ([], (rElementBits p q y xs).2)
theorem rPay_bd (p q y : Int) (xs : List Int) : sumG (rPay p q y xs).1 ≤ 400 ∧ (rPay p q y xs).1.length ≤ 800 := by
  unfold rPay
  split
  · obtain ⟨h1, h2⟩ := rElementBits_bits p q y xs
    obtain ⟨k1, k2, -, -⟩ := segsL_bd h2 ((rElementBits p q y xs).1.length + 1) 0 0 [] rfl (by omega) (by simp) (by omega)
    exact ⟨k1, by omega⟩
  · exact ⟨by show (0 : Nat) ≤ 400; omega, by simp⟩
def rDecode (p q y : Int) (xs : List Int) : ByteArray × Int :=
  if (rPay p q y xs).2 = 0 then (strOfNums (joinI (rPay p q y xs).1), 0) else (⟨#[]⟩, (rPay p q y xs).2)
set_option maxHeartbeats 1000000 in
theorem specPayloadSegments_any (p q y : Int) (a : Option Addr) (n c : Nat) (xs : List Int) (w : World) (h : Rd .i64 w a n xs) (hn : n ≤ 1000000000) :
    Calls Try.prog 13 #[.agg #[.int .i64 p, .int .i64 q, .int .i64 y], .slice a n c] w (SegsR (rPay p q y xs) w) := by
  have hbits := rElementBits_bits p q y xs
  have HA := Lib.hid (Below.alloc (Below.refl w.heap.size w) (Nat.le_refl _) (.cells #[.int .i64 p, .int .i64 q, .int .i64 y] 36))
  have H := Lib.hid h
  clear h
  obtain ⟨R, hR⟩ : ∃ R, rElementBits p q y xs = R := ⟨_, rfl⟩
  have HE := Lib.hid (fun w (h : Rd .i64 w a n xs) => specElementBits_any p q y a n c xs w h hn)
  have HP := Lib.hid (show rPay p q y xs = if R.2 = 0 then segsL R.1 (R.1.length + 1) 0 0 [] else ([], R.2) by rw [← hR]; rfl)
  rw [hR] at HE hbits
  obtain ⟨bs, code⟩ := R
  obtain ⟨P, hP⟩ : ∃ P, rPay p q y xs = P := ⟨_, rfl⟩
  rw [hP] at HP ⊢
  go_enter Try.func13, Try.ntmps13
  go_wp2_with fail
  refine (HE.out _ (H.out.to HA.out)).mono ?_
  rintro e w1 ⟨a1, n1, c1, rfl, ho, hb1⟩
  replace hb1 := bt HA.out hb1
  have hlen := ho.len
  by_cases hc : code = 0
  · subst hc
    have hr := Lib.hid (HP.out.trans (if_pos rfl))
    have h0 : ((0 : Int) != 0) = false := by simp
    go_wp2_with fail
    have HG := l11Segments_any a1 n1 c1 0 bs w1 (ho.rd (fun x hx => fits_bit (hbits.2 x hx))) (Lib.hid hbits.2) (by have := hbits.1; omega) (by omega)
    rw [← hlen, ← hr.out] at HG
    rw [← hlen]
    refine HG.mono ?_
    rintro e w2 ⟨a2, n2, c2, rfl, hn2, ho2, hb2⟩
    obtain rfl := hn2
    go_wp2_with fail
    go_ret2
    exact ⟨_, _, _, rfl, rfl, ho2.more hb1.size, bt hb1 hb2⟩
  · have hr := Lib.hid (HP.out.trans (if_neg hc))
    have h0 : (code != 0) = true := by simpa using hc
    obtain rfl := hr.out
    go_wp2_with fail
    go_ret2
    exact ⟨_, _, _, rfl, rfl, OwV.nil _ _ _ _, hb1⟩
set_option maxHeartbeats 1000000 in
theorem implPayloadSegments_any (p q y : Int) (a : Option Addr) (n c : Nat) (xs : List Int) (w : World) (h : Rd .i64 w a n xs) (hn : n ≤ 1000000000) :
    Calls Try.prog 15 #[.agg #[.int .i64 p, .int .i64 q, .int .i64 y], .slice a n c] w (SegsR (rPay p q y xs) w) := by
  have hbits := rElementBits_bits p q y xs
  have HA := Lib.hid (Below.alloc (Below.refl w.heap.size w) (Nat.le_refl _) (.cells #[.int .i64 p, .int .i64 q, .int .i64 y] 36))
  have H := Lib.hid h
  clear h
  obtain ⟨R, hR⟩ : ∃ R, rElementBits p q y xs = R := ⟨_, rfl⟩
  have HE := Lib.hid (fun w (h : Rd .i64 w a n xs) => elementBits_any p q y a n c xs w h hn)
  have HP := Lib.hid (show rPay p q y xs = if R.2 = 0 then segsL R.1 (R.1.length + 1) 0 0 [] else ([], R.2) by rw [← hR]; rfl)
  rw [hR] at HE hbits
  obtain ⟨bs, code⟩ := R
  obtain ⟨P, hP⟩ : ∃ P, rPay p q y xs = P := ⟨_, rfl⟩
  rw [hP] at HP ⊢
  go_enter Try.func15, Try.ntmps15
  go_wp2_with fail
  refine (HE.out _ (H.out.to HA.out)).mono ?_
  rintro e w1 ⟨a1, n1, c1, rfl, ho, hb1⟩
  replace hb1 := bt HA.out hb1
  have hlen := ho.len
  by_cases hc : code = 0
  · subst hc
    have hr := Lib.hid (HP.out.trans (if_pos rfl))
    have h0 : ((0 : Int) != 0) = false := by simp
    go_wp2_with fail
    have HG := readSegments_any a1 n1 c1 0 bs w1 ho.cap.1 ho.cap.2 (ho.rd (fun x hx => fits_bit (hbits.2 x hx))) (Lib.hid hbits.2) (by have := hbits.1; omega) (by omega)
    rw [← hlen, ← hr.out] at HG
    rw [← hlen]
    refine HG.mono ?_
    rintro e w2 ⟨a2, n2, c2, rfl, hn2, ho2, hb2⟩
    obtain rfl := hn2
    go_wp2_with fail
    go_ret2
    exact ⟨_, _, _, rfl, rfl, ho2.more hb1.size, bt hb1 hb2⟩
  · have hr := Lib.hid (HP.out.trans (if_neg hc))
    have h0 : (code != 0) = true := by simpa using hc
    obtain rfl := hr.out
    go_wp2_with fail
    go_ret2
    exact ⟨_, _, _, rfl, rfl, OwV.nil _ _ _ _, hb1⟩
set_option maxHeartbeats 1000000 in
set_option maxRecDepth 20000 in
theorem specDecodePayload_any (p q y : Int) (a : Option Addr) (n c : Nat) (xs : List Int) (w : World) (h : Rd .i64 w a n xs) (hn : n ≤ 1000000000) :
    Calls Try.prog 20 #[.agg #[.int .i64 p, .int .i64 q, .int .i64 y], .slice a n c] w (Ret (.tuple #[.string (rDecode p q y xs).1, .int .i64 (rDecode p q y xs).2]) w) := by
  have hbd := rPay_bd p q y xs
  have HA := Lib.hid (Below.alloc (Below.refl w.heap.size w) (Nat.le_refl _) (.cells #[.int .i64 p, .int .i64 q, .int .i64 y] 36))
  have H := Lib.hid h
  clear h
  have HE := Lib.hid (fun w (h : Rd .i64 w a n xs) => specPayloadSegments_any p q y a n c xs w h hn)
  obtain ⟨R, hR⟩ : ∃ R, rPay p q y xs = R := ⟨_, rfl⟩
  have HP := Lib.hid (show rDecode p q y xs = if R.2 = 0 then (strOfNums (joinI R.1), 0) else (⟨#[]⟩, R.2) by rw [← hR]; rfl)
  rw [hR] at HE hbd
  obtain ⟨l, code⟩ := R
  obtain ⟨P, hP⟩ : ∃ P, rDecode p q y xs = P := ⟨_, rfl⟩
  rw [hP] at HP ⊢
  go_enter Try.func20, Try.ntmps20
  go_wp2_with fail
  refine (HE.out _ (H.out.to HA.out)).mono ?_
  rintro e w1 ⟨a1, n1, c1, rfl, hn1, ho, hb1⟩
  replace hb1 := bt HA.out hb1
  obtain rfl : n1 = l.length := hn1
  by_cases hc : code = 0
  · subst hc
    have hr : P = (strOfNums (joinI l), 0) := by rw [HP.out, if_pos rfl]
    obtain ⟨S, hS⟩ : ∃ S, strOfNums (joinI l) = S := ⟨_, rfl⟩
    rw [hS] at hr
    subst hr
    have h0 : ((0 : Int) != 0) = false := by simp
    go_wp2_with fail
    refine (l11Join_any a1 l.length c1 l w1 ho.rd hbd.1 (by have := hbd.2; omega)).mono ?_
    rintro e w2 ⟨rfl, hb2⟩
    rw [hS]
    go_wp2_with fail
    go_ret2
    exact ⟨rfl, bt hb1 hb2⟩
  · have hr : P = (⟨#[]⟩, code) := by rw [HP.out, if_neg hc]
    subst hr
    have h0 : (code != 0) = true := by simpa using hc
    go_wp2_with fail
    go_ret2
    exact ⟨rfl, hb1⟩
set_option maxHeartbeats 1000000 in
set_option maxRecDepth 20000 in
theorem implDecodePayload_any (p q y : Int) (a : Option Addr) (n c : Nat) (xs : List Int) (w : World) (h : Rd .i64 w a n xs) (hn : n ≤ 1000000000) :
    Calls Try.prog 21 #[.agg #[.int .i64 p, .int .i64 q, .int .i64 y], .slice a n c] w (Ret (.tuple #[.string (rDecode p q y xs).1, .int .i64 (rDecode p q y xs).2]) w) := by
  have hbd := rPay_bd p q y xs
  have HA := Lib.hid (Below.alloc (Below.refl w.heap.size w) (Nat.le_refl _) (.cells #[.int .i64 p, .int .i64 q, .int .i64 y] 36))
  have H := Lib.hid h
  clear h
  have HE := Lib.hid (fun w (h : Rd .i64 w a n xs) => implPayloadSegments_any p q y a n c xs w h hn)
  obtain ⟨R, hR⟩ : ∃ R, rPay p q y xs = R := ⟨_, rfl⟩
  have HP := Lib.hid (show rDecode p q y xs = if R.2 = 0 then (strOfNums (joinI R.1), 0) else (⟨#[]⟩, R.2) by rw [← hR]; rfl)
  rw [hR] at HE hbd
  obtain ⟨l, code⟩ := R
  obtain ⟨P, hP⟩ : ∃ P, rDecode p q y xs = P := ⟨_, rfl⟩
  rw [hP] at HP ⊢
  go_enter Try.func21, Try.ntmps21
  go_wp2_with fail
  refine (HE.out _ (H.out.to HA.out)).mono ?_
  rintro e w1 ⟨a1, n1, c1, rfl, hn1, ho, hb1⟩
  replace hb1 := bt HA.out hb1
  obtain rfl : n1 = l.length := hn1
  by_cases hc : code = 0
  · subst hc
    have hr : P = (strOfNums (joinI l), 0) := by rw [HP.out, if_pos rfl]
    obtain ⟨S, hS⟩ : ∃ S, strOfNums (joinI l) = S := ⟨_, rfl⟩
    rw [hS] at hr
    subst hr
    have h0 : ((0 : Int) != 0) = false := by simp
    go_wp2_with fail
    refine (joined_any a1 l.length c1 l w1 ho.rd hbd.1 (by have := hbd.2; omega)).mono ?_
    rintro e w2 ⟨rfl, hb2⟩
    rw [hS]
    go_wp2_with fail
    go_ret2
    exact ⟨rfl, bt hb1 hb2⟩
  · have hr : P = (⟨#[]⟩, code) := by rw [HP.out, if_neg hc]
    subst hr
    have h0 : (code != 0) = true := by simpa using hc
    go_wp2_with fail
    go_ret2
    exact ⟨rfl, hb1⟩
end Go.Proofs.Ytnajjofaijpciaa
/-
  The laws FnExactConstants, FnExactMessageParity, FnExactStandardFormat hold at every input.
  Conditions: none.
-/
set_option linter.unusedVariables false
namespace Go.Proofs.Ytnajjofaijpciaa
open Go.RowKit Go.G8

def parity (l : List Int) : Int := l.foldl (fun n x => bits .xor .u8 n x) 0
theorem parity_snoc (l : List Int) (x : Int) : parity (l ++ [x]) = bits .xor .u8 (parity l) x := by simp [parity]
theorem u8_bits_bd (op : BinOp) (a b : Int) : 0 ≤ bits op .u8 a b ∧ bits op .u8 a b ≤ 255 := by
  cases op <;> simp only [bits, IntKind.wrap_u8] <;> omega
theorem parity_bd (l : List Int) : 0 ≤ parity l ∧ parity l ≤ 255 := by
  rcases List.eq_nil_or_concat l with rfl | ⟨ys, b, rfl⟩
  · decide
  · rw [List.concat_eq_append, parity_snoc]; exact u8_bits_bd _ _ _

theorem specMessageParity_any (s : ByteArray) (w : World) (hs : s.size ≤ 1000000000) :
    Calls Try.prog 43 #[.string s] w (RetS (.int .i64 (parity (strI s))) w) := by
  have HS := Lib.hid (strI_length s)
  go_enter Try.func43, Try.ntmps43
  go_wp2
  go_loop [3, 4] (fun v i => ∃ k : Nat, k ≤ s.size ∧ i = .int .i64 k ∧ v = .int .u8 (parity ((strI s).take k))) (fun _ i => s.size - (intOf i).toNat)
  case atStart => exact ⟨0, Nat.zero_le _, rfl, rfl⟩
  case round =>
    obtain ⟨k, hk, rfl, rfl⟩ := hrel
    obtain ⟨hp1, hp2⟩ := parity_bd ((strI s).take k)
    by_cases hlt : k < s.size
    · obtain ⟨x, hsx, hx, hx1, hx2⟩ := str_at s k hlt
      have hT := Lib.hid (take_snoc hx.out)
      go_wp2
      go_round
      case rel => exact ⟨k + 1, by omega, by go_num, by rw [hT.out, parity_snoc]⟩
      case measure => simp [intOf]; omega
    · obtain rfl : k = s.size := by omega
      rw [List.take_of_length_le (by rw [HS.out]; exact Nat.le_refl _)] at *
      go_wp2
      go_ret
      exact ⟨rfl, rfl⟩
theorem implMessageParity_any (s : ByteArray) (w : World) (hs : s.size ≤ 1000000000) :
    Calls Try.prog 27 #[.string s] w (RetS (.int .i64 (parity (strI s))) w) := by
  have HS := Lib.hid (strI_length s)
  go_enter Try.func27, Try.ntmps27
  go_wp2
  go_loop [3, 4] (fun v i => ∃ k : Nat, k ≤ s.size ∧ i = .int .i64 k ∧ v = .int .u8 (parity ((strI s).take k))) (fun _ i => s.size - (intOf i).toNat)
  case atStart => exact ⟨0, Nat.zero_le _, rfl, rfl⟩
  case round =>
    obtain ⟨k, hk, rfl, rfl⟩ := hrel
    obtain ⟨hp1, hp2⟩ := parity_bd ((strI s).take k)
    by_cases hlt : k < s.size
    · obtain ⟨x, hsx, hx, hx1, hx2⟩ := str_at s k hlt
      have hT := Lib.hid (take_snoc hx.out)
      go_wp2
      go_round
      case rel => exact ⟨k + 1, by omega, by go_num, by rw [hT.out, parity_snoc]⟩
      case measure => simp [intOf]; omega
    · obtain rfl : k = s.size := by omega
      rw [List.take_of_length_le (by rw [HS.out]; exact Nat.le_refl _)] at *
      go_wp2
      go_ret
      exact ⟨rfl, rfl⟩
end Go.Proofs.Ytnajjofaijpciaa
