/-
  Contracts: the elements with bits, by the reference and by the program.
  Conditions: none.
-/
import Derived.Test.YtjdnaoidlblciaaFieldW
import Derived.Test.YtjdnaoidlblciaaL01b
import Derived.Test.YtjdnaoidlblciaaL01d
import Derived.Test.YtjdnaoidlblciaaPolyIs
set_option linter.unusedVariables false
namespace Go.Proofs.Ytjdnaoidlblciaa
open Go.RowKit Go.G8
theorem wF_bd {s : Int} (hs : s ≤ 1021) : ∀ (n k : Nat), (2 : Int) ^ k ≤ s → k ≤ wF s n k ∧ (2 : Int) ^ (wF s n k) ≤ s := by
  intro n
  induction n with
  | zero => intro k hk; exact ⟨Nat.le_refl _, hk⟩
  | succ n ih =>
    intro k hk
    by_cases h : (2 : Int) * 2 ^ k ≤ s
    · rw [wF_yes h]
      have := ih (k + 1) (by rw [Int.pow_succ]; omega)
      omega
    · rw [wF_no h]; exact ⟨Nat.le_refl _, hk⟩
theorem wOf_bd {s : Int} (h3 : 3 ≤ s) (hs : s ≤ 1021) : 1 ≤ wOf s ∧ wOf s ≤ 9 ∧ (2 : Int) ^ (wOf s) ≤ s := by
  have h1 : wOf s = wF s 9 1 := by unfold wOf; rw [wF_yes (by simp; omega)]
  have h := wF_bd hs 9 1 (by simp; omega)
  rw [← h1] at h
  refine ⟨h.1, ?_, h.2⟩
  rcases Nat.lt_or_ge (wOf s) 10 with hl | hg
  · omega
  · exfalso
    have : (2 : Nat) ^ 10 ≤ 2 ^ (wOf s) := Nat.pow_le_pow_right (by decide) hg
    have e : ((2 ^ (wOf s) : Nat) : Int) = (2 : Int) ^ (wOf s) := Int.natCast_pow 2 _
    omega
def elemsL (xs : List Int) (w m : Nat) : List Int := (List.range m).map (fun j => num (bpart xs (w * j) w))
theorem elemsL_succ (xs : List Int) (w m : Nat) : elemsL xs w (m + 1) = elemsL xs w m ++ [num (bpart xs (w * m) w)] := by simp [elemsL, List.range_succ]
theorem elemsL_length (xs : List Int) (w m : Nat) : (elemsL xs w m).length = m := by simp [elemsL]
theorem elemsL_fits {xs : List Int} (h : ∀ x ∈ xs, x = 0 ∨ x = 1) (w m : Nat) (hw : w ≤ 32) : ∀ x ∈ elemsL xs w m, fits .i64 x := by
  intro x hx
  simp only [elemsL, List.mem_map] at hx
  obtain ⟨j, _, rfl⟩ := hx
  have := part_num h (w * j) w hw
  show -9223372036854775808 ≤ _ ∧ _ ≤ 9223372036854775807
  omega
set_option maxHeartbeats 1000000 in
set_option maxRecDepth 20000 in
theorem l11Elements_any (a : Option Addr) (n c : Nat) (xs : List Int) (wd m : Nat) (w : World) (h : Rd .i64 w a n xs) (hb : Hid (∀ x ∈ xs, x = 0 ∨ x = 1)) (hw : 1 ≤ wd ∧ wd ≤ 9) (hn : n ≤ 8192) (hm : n = wd * m) :
    Calls Try.prog 79 #[.int .i64 wd, .slice a n c] w (RetRow .i64 2 (elemsL xs wd m) w) := by
  obtain ⟨i0, hi, hz0, hz1, hz2⟩ := info_parts info_int64
  obtain ⟨hw1, hw2⟩ := hw
  have HM := Lib.hid hm
  clear hm
  go_enter Try.func79, Try.ntmps79
  go_wp2
  go_loopw [5, 6] (fun o i wr => ∃ (a' : Option Addr) (c' k j : Nat), k ≤ m ∧ Hid (j = wd * k) ∧ i = .int .i64 (j : Int) ∧ o = .slice a' k c' ∧ Ow .i64 2 w.heap.size wr a' k c' (elemsL xs wd k) ∧ Below w.heap.size w wr) (fun _ i _ => n + 1 - (intOf i).toNat)
  case atStart => exact ⟨_, _, 0, 0, Nat.zero_le _, rfl, rfl, rfl, Ow.empty _ _ _ w (Nat.le_refl _), (Below.refl _ _).alloc (Nat.le_refl _) _⟩
  case round =>
    obtain ⟨a', c', k, j, hk, hj, rfl, rfl, hown, hbel⟩ := hrel
    have hBr := hbel.size
    have hR := h.to hbel
    by_cases hlt : k < m
    · have hj1 : j + wd ≤ n := by
        have h1 : wd * (k + 1) ≤ wd * m := Nat.mul_le_mul_left _ hlt
        rw [Nat.mul_succ] at h1
        have h2 := hj.out
        have h3 := HM.out
        omega
      have hkn : k ≤ n := by
        have h1 : 1 * k ≤ wd * k := Nat.mul_le_mul_right _ hw1
        have h2 := hj.out
        omega
      have hnum := part_num hb.out j wd (by omega)
      have hjs := Lib.hid (show j + wd = wd * (k + 1) by rw [Nat.mul_succ, ← hj.out])
      have hS := Lib.hid (show elemsL xs wd (k + 1) = elemsL xs wd k ++ [num (bpart xs j wd)] by rw [elemsL_succ, ← hj.out])
      go_wp2_with (first | (go_at_call 97; refine (l01Number_any a n c xs j wd _ hR hb (by omega) (by omega) (by omega) (by omega) (by omega)).mono ?_; rintro e w' ⟨rfl, rfl⟩) | (at_builtin; refine wpList_push .i64 _ rfl _ _ 37 rfl w.heap.size 2 _ i0 8 Try.underlying37 hi hz0 hz1 hz2 (by omega) a' k c' _ _ rfl hown rfl (by omega) (by omega) ?_; intro a2 n2 c2 w2 hown2 hbel2))
      have hn2 : n2 = k + 1 := by have e1 := hown2.len; simp [elemsL_length] at e1; omega
      subst hn2
      rw [← hS.out] at hown2
      go_roundw
      case rel => exact ⟨a2, c2, k + 1, j + wd, by omega, hjs, by go_num, rfl, hown2, hbel.trans hbel2⟩
      case measure => simp [intOf]; omega
    · obtain rfl : k = m := by omega
      have hj2 : j = n := by have h2 := hj.out; have h3 := HM.out; omega
      have hj3 : (n : Int) < (j : Int) + (wd : Int) := by omega
      have hj4 : j ≤ 8192 := by omega
      clear hlt hj2
      go_wp2
      go_ret
      exact ⟨_, _, _, rfl, hown, hbel⟩
def rBitElements (p q y : Int) (xs : List Int) : List Int × Int :=
  if fieldB p q y = true ∧ isBits xs = true then (if xs.length % wOf (fsize p q) = 0 then (elemsL xs (wOf (fsize p q)) (xs.length / wOf (fsize p q)), 0) else ([], 5)) else ([], 1)
theorem rBitElements_f {p q y : Int} {xs : List Int} (h : fieldB p q y = false) : rBitElements p q y xs = ([], 1) := by unfold rBitElements; rw [if_neg (by rw [h]; simp)]
theorem rBitElements_b {p q y : Int} {xs : List Int} (h : isBits xs = false) : rBitElements p q y xs = ([], 1) := by unfold rBitElements; rw [if_neg (by rw [h]; simp)]
theorem rBitElements_s {p q y : Int} {xs : List Int} {wd : Nat} (h : fieldB p q y = true) (hb : isBits xs = true) (hw : wOf (fsize p q) = wd) (hm : ¬ xs.length % wd = 0) : rBitElements p q y xs = ([], 5) := by unfold rBitElements; rw [if_pos ⟨h, hb⟩, hw, if_neg hm]
theorem rBitElements_ok1 {p q y : Int} {xs : List Int} {wd : Nat} (h : fieldB p q y = true) (hb : isBits xs = true) (hw : wOf (fsize p q) = wd) (hm : xs.length % wd = 0) : rBitElements p q y xs = (elemsL xs wd (xs.length / wd), 0) := by unfold rBitElements; rw [if_pos ⟨h, hb⟩, hw, if_pos hm]
theorem rBitElements_ok (p q y : Int) (xs : List Int) : (rBitElements p q y xs).1.length ≤ 1000000 ∧ ∀ x ∈ (rBitElements p q y xs).1, fits .i64 x := by
  unfold rBitElements
  split
  · rename_i h
    split
    · have hb := (isBits_iff xs).1 h.2
      have hbd := fsize_bd h.1
      have hw := wOf_bd hbd.1 hbd.2
      refine ⟨?_, elemsL_fits hb.2 _ _ (by omega)⟩
      rw [elemsL_length]
      have := Nat.div_le_self xs.length (wOf (fsize p q))
      omega
    · simp
  · simp
set_option maxHeartbeats 1000000 in
set_option maxRecDepth 20000 in
theorem specBitElements_any (p q y : Int) (a : Option Addr) (n c : Nat) (xs : List Int) (w : World) (h : Rd .i64 w a n xs) (hn : n ≤ 1000000000) :
    Calls Try.prog 33 #[.agg #[.int .i64 p, .int .i64 q, .int .i64 y], .slice a n c] w (RetRow2 .i64 2 (rBitElements p q y xs).1 (.int .i64 (rBitElements p q y xs).2) w) := by
  have HL := Lib.hid h.len
  have HR := Lib.hid h
  clear h
  cases hf : fieldB p q y with
  | false =>
    have hr := Lib.hid (rBitElements_f (xs := xs) hf)
    go_enter Try.func33, Try.ntmps33
    go_wp2_with fail
    refine (isField_spec p q y _).mono ?_
    rw [hf]
    rintro e w1 ⟨rfl, hb1⟩
    have hB := bt (Below.alloc (Below.refl w.heap.size w) (Nat.le_refl _) _) hb1
    go_wp2_with fail
    go_ret2
    exact retRow2_nil hr.out hB
  | true =>
    have HH := Lib.hid (start3 w (.int .i64 p) (.int .i64 q) (.int .i64 y) 26)
    have HW := Lib.hid (fun w => l11Width_any p q y w hf)
    have hbd := fsize_bd hf
    have HD := Lib.hid (wOf_bd hbd.1 hbd.2)
    go_enter Try.func33, Try.ntmps33
    go_wp2_with fail
    refine (isField_spec p q y _).mono ?_
    rw [hf]
    rintro e w1 ⟨rfl, hb1⟩
    obtain ⟨hw0, hlt, d0, d1, d2⟩ := HH.out
    obtain ⟨hcc, hff⟩ := bcell hb1
    replace d0 := (hcc _ 0 hlt).trans d0
    replace d1 := (hcc _ 1 hlt).trans d1
    replace d2 := (hcc _ 2 hlt).trans d2
    have hB := bt hw0 hb1
    have hR1 := HR.out.to hB
    clear hcc hff hb1 hw0 hlt
    go_wp2_with fail
    refine (specIsBits_any a n c xs _ hR1 hn).mono ?_
    cases hbits : isBits xs with
    | false =>
      have hr := Lib.hid (rBitElements_b (p := p) (q := q) (y := y) hbits)
      rintro e w' ⟨rfl, rfl⟩
      go_wp2_with fail
      go_ret2
      exact retRow2_nil hr.out hB
    | true =>
      rintro e w' ⟨rfl, rfl⟩
      have HB := Lib.hid ((isBits_iff xs).1 hbits)
      obtain ⟨wd, hwd⟩ : ∃ wd, wOf (fsize p q) = wd := ⟨_, rfl⟩
      have hw9 := HD.out
      rw [hwd] at hw9
      have hw1 := hw9.1
      have hw2 := hw9.2.1
      clear hw9
      go_wp2_with fail
      refine (HW.out _).mono ?_
      rw [hwd]
      rintro e w2 ⟨rfl, hb2⟩
      have hB2 := bt hB hb2
      have hR2 := HR.out.to hB2
      have hw0 : ¬ wd = 0 := by omega
      have hn8 : n ≤ 8192 := by have e1 := HL.out; have e2 := HB.out.1; omega
      by_cases hm : n % wd = 0
      · have hr := Lib.hid (rBitElements_ok1 hf hbits hwd (by rw [HL.out]; exact hm))
        rw [HL.out] at hr
        have hz : ((n : Int) % (wd : Int) != 0) = false := by rw [bne_eq_false_iff_eq]; omega
        have hnm := Lib.hid (show n = wd * (n / wd) by have := Nat.div_add_mod n wd; omega)
        have HBt := Lib.hid HB.out.2
        clear hm
        go_wp2_with fail
        refine (l11Elements_any a n c xs wd (n / wd) _ hR2 HBt ⟨hw1, hw2⟩ hn8 hnm.out).mono ?_
        rintro e w3 ⟨a3, n3, c3, rfl, ho3, hb3⟩
        go_wp2_with fail
        go_ret2
        exact retRow2_of hr.out (ho3.more hB2.size) (bt hB2 hb3)
      · have hr := Lib.hid (rBitElements_s hf hbits hwd (by rw [HL.out]; exact hm))
        have hz : ((n : Int) % (wd : Int) != 0) = true := by rw [bne_iff_ne]; omega
        clear hm
        go_wp2_with fail
        go_ret2
        exact retRow2_nil hr.out hB2
set_option maxHeartbeats 1000000 in
set_option maxRecDepth 20000 in
theorem implBitElements_any (p q y : Int) (a : Option Addr) (n c : Nat) (xs : List Int) (w : World) (h : Rd .i64 w a n xs) (hn : n ≤ 1000000000) (hc : n ≤ c ∧ c ≤ 9223372036854775807) :
    Calls Try.prog 34 #[.agg #[.int .i64 p, .int .i64 q, .int .i64 y], .slice a n c] w (RetRow2 .i64 2 (rBitElements p q y xs).1 (.int .i64 (rBitElements p q y xs).2) w) := by
  obtain ⟨i0, hi, hz0, hz1, hz2⟩ := info_parts info_int64
  have HL := Lib.hid h.len
  have HR := Lib.hid h
  have HC := Lib.hid hc
  clear h hc
  cases hf : fieldB p q y with
  | false =>
    have hr := Lib.hid (rBitElements_f (xs := xs) hf)
    go_enter Try.func34, Try.ntmps34
    go_wp2_with fail
    refine (calc_spec p q y _).mono ?_
    unfold CalcRes
    rw [hf]
    rintro e w1 ⟨o, rfl, hb1, -⟩
    have hB := bt (Below.alloc (Below.refl w.heap.size w) (Nat.le_refl _) _) hb1
    go_wp2_with fail
    go_ret2
    exact retRow2_nil hr.out hB
  | true =>
    have hbd := fsize_bd hf
    have HD := Lib.hid (wOf_bd hbd.1 hbd.2)
    go_enter Try.func34, Try.ntmps34
    go_wp2_with fail
    refine (calc_spec p q y _).mono ?_
    unfold CalcRes
    rw [hf]
    rintro e w1 ⟨o, rfl, hb1, hG⟩
    obtain ⟨G, rfl, hG1, htab⟩ := hG rfl
    have hB := bt (Below.alloc (Below.refl w.heap.size w) (Nat.le_refl _) _) hb1
    have hR1 := HR.out.to hB
    have hsz := htab.size_
    have hlt := htab.lt
    clear hb1 hG htab
    go_wp2_with fail
    refine (implIsBits_any a n c xs _ hR1 hn).mono ?_
    cases hbits : isBits xs with
    | false =>
      have hr := Lib.hid (rBitElements_b (p := p) (q := q) (y := y) hbits)
      rintro e w' ⟨rfl, rfl⟩
      go_wp2_with fail
      go_ret2
      exact retRow2_nil hr.out hB
    | true =>
      rintro e w' ⟨rfl, rfl⟩
      have HB := Lib.hid ((isBits_iff xs).1 hbits)
      obtain ⟨wd, hwd⟩ : ∃ wd, wOf (fsize p q) = wd := ⟨_, rfl⟩
      have hw9 := HD.out
      rw [hwd] at hw9
      have hw1 := hw9.1
      have hw2 := hw9.2.1
      clear hw9
      go_wp2_with fail
      refine (calcWidth 87 G (fsize p q) _ hbd.2 hsz hlt).mono ?_
      rw [hwd]
      rintro e w2 ⟨rfl, hb2⟩
      have hB2 := bt hB hb2
      have hR2 := HR.out.to hB2
      have hw0 : ¬ wd = 0 := by omega
      have hn8 : n ≤ 8192 := by have e1 := HL.out; have e2 := HB.out.1; omega
      clear hsz hlt hR1 hb2 HD hG1
      by_cases hm : n % wd = 0
      · have hr := Lib.hid (rBitElements_ok1 hf hbits hwd (by rw [HL.out]; exact hm))
        rw [HL.out] at hr
        have hz : ((n : Int) % (wd : Int) != 0) = false := by rw [bne_eq_false_iff_eq]; omega
        have hnm := Lib.hid (show n = wd * (n / wd) by have := Nat.div_add_mod n wd; omega)
        have HBt := Lib.hid HB.out.2
        clear hm hwd hbits hf hbd
        have hB2s := hB2.size
        have hdl : n / wd ≤ 8192 := by have := Nat.div_le_self n wd; omega
        obtain ⟨m, em⟩ : ∃ m, n / wd = m := ⟨_, rfl⟩
        rw [em] at hr hnm hdl
        clear em
        go_wp2_with fail
        go_loopw [9, 10] (fun o i wr => ∃ (a' : Option Addr) (c' k j : Nat), k ≤ m ∧ Hid (j = wd * k) ∧ i = .int .i64 (j : Int) ∧ o = .slice a' k c' ∧ Ow .i64 2 w.heap.size wr a' k c' (elemsL xs wd k) ∧ Below w.heap.size w wr) (fun _ i _ => n + 1 - (intOf i).toNat)
        case atStart => exact ⟨_, _, 0, 0, Nat.zero_le _, rfl, rfl, rfl, Ow.empty _ _ _ w2 hB2s, hB2.alloc hB2s _⟩
        case round =>
          clear hR2 hB2 hB2s
          obtain ⟨a', c', k, j, hk, hj, rfl, rfl, hown, hbel⟩ := hrel
          have hBr := hbel.size
          have hR := HR.out.to hbel
          by_cases hlt : k < m
          · have hj1 : j + wd ≤ n := by
              have h1 : wd * (k + 1) ≤ wd * m := Nat.mul_le_mul_left _ hlt
              rw [Nat.mul_succ] at h1
              have h2 := hj.out
              have h3 := hnm.out
              omega
            have hnum := part_num HBt.out j wd (by omega)
            have hjs := Lib.hid (show j + wd = wd * (k + 1) by rw [Nat.mul_succ, ← hj.out])
            have hS := Lib.hid (show elemsL xs wd (k + 1) = elemsL xs wd k ++ [num (bpart xs j wd)] by rw [elemsL_succ, ← hj.out])
            go_wp2_with (first | (go_at_call 82; refine (numberAt_any a n c xs j wd _ hR HBt (by omega) HC.out.1 HC.out.2 (by omega) (by omega) (by omega) (by omega)).mono ?_; rintro e w' ⟨rfl, rfl⟩) | (at_builtin; refine wpList_push .i64 _ rfl _ _ 37 rfl w.heap.size 2 _ i0 8 Try.underlying37 hi hz0 hz1 hz2 (by omega) a' k c' _ _ rfl hown rfl (by omega) (by omega) ?_; intro a2 n2 c2 w2 hown2 hbel2))
            have hn2 : n2 = k + 1 := by have e1 := hown2.len; simp [elemsL_length] at e1; omega
            subst hn2
            rw [← hS.out] at hown2
            go_roundw
            case rel => exact ⟨a2, c2, k + 1, j + wd, by omega, hjs, by go_num, rfl, hown2, hbel.trans hbel2⟩
            case measure => simp [intOf]; omega
          · obtain rfl : k = m := by omega
            have hj3 : (n : Int) ≤ (j : Int) := by have h2 := hj.out; have h3 := hnm.out; omega
            have hj4 : j ≤ 8192 := by have h2 := hj.out; have h3 := hnm.out; omega
            clear hlt
            go_wp2
            go_ret2
            exact retRow2_of hr.out hown hbel
      · have hr := Lib.hid (rBitElements_s hf hbits hwd (by rw [HL.out]; exact hm))
        have hz : ((n : Int) % (wd : Int) != 0) = true := by rw [bne_iff_ne]; omega
        clear hm
        go_wp2_with fail
        go_ret2
        exact retRow2_nil hr.out hB2
end Go.Proofs.Ytjdnaoidlblciaa
