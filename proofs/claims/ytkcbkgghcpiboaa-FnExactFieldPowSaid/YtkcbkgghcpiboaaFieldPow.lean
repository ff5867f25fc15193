/-
  Contracts: powers, inverses and logarithms of elements, by the reference and by the program.
  Conditions: none.
-/
import Derived.Test.YtkcbkgghcpiboaaFieldMul
set_option linter.unusedVariables false
namespace Go.Proofs.Ytkcbkgghcpiboaa
open Go.RowKit Go.G8
theorem cell3 {w1 w2 : World} {b : Nat} {x1 x2 x3 : Value} (hb : Below w1.heap.size w1 w2) (hlt : b < w1.heap.size) (c1 : w1.cell? ⟨b, 0, none⟩ = some x1) (c2 : w1.cell? ⟨b, 1, none⟩ = some x2) (c3 : w1.cell? ⟨b, 2, none⟩ = some x3) :
    w2.cell? ⟨b, 0, none⟩ = some x1 ∧ w2.cell? ⟨b, 1, none⟩ = some x2 ∧ w2.cell? ⟨b, 2, none⟩ = some x3 := by
  obtain ⟨hcc, hff⟩ := bcell hb
  exact ⟨(hcc b 0 hlt).trans c1, (hcc b 1 hlt).trans c2, (hcc b 2 hlt).trans c3⟩
set_option maxHeartbeats 1000000 in
theorem l02Pow_any (p q y a : Int) (n : Nat) (w : World) (h : fieldB p q y = true) (ha : 0 ≤ a ∧ a ≤ fsize p q - 1) (hn : n < 2 ^ 40) :
    Calls Try.prog 66 #[.agg #[.int .i64 p, .int .i64 q, .int .i64 y], .int .i64 a, .int .i64 n] w (RetB (.int .i64 (powG (fMul p q y) 40 1 a n)) w) := by
  have HM := Lib.hid (fun x z w hx hz => l02Mul_any p q y x z w h hx hz)
  have HI := Lib.hid (fun x z hx hz => fMul_in (a := x) (b := z) h hx hz)
  have hbd := fsize_bd h
  obtain ⟨s, hs⟩ : ∃ s, fsize p q = s := ⟨_, rfl⟩
  obtain ⟨M, hM⟩ : ∃ M, fMul p q y = M := ⟨_, rfl⟩
  obtain ⟨R, hR⟩ : ∃ R, powG M 40 1 a n = R := ⟨_, rfl⟩
  rw [hs, hM] at HM HI
  rw [hs] at ha hbd
  rw [hM, hR]
  have HN := Lib.hid hn
  have HR := Lib.hid hR
  have HA := Lib.hid ha
  clear hs hM hR h hn ha
  go_enter Try.func66, Try.ntmps66
  go_wp2
  go_loopw [1, 2, 7] (fun a' n' o wr => ∃ (k m : Nat) (u v : Int), m < 2 ^ k ∧ k ≤ 40 ∧ n' = .int .i64 m ∧ a' = .int .i64 v ∧ o = .int .i64 u ∧ Hid (0 ≤ u ∧ u ≤ s - 1) ∧ Hid (0 ≤ v ∧ v ≤ s - 1) ∧ Hid (powG M k u v m = R) ∧ Below w.heap.size w wr ∧ wr.cell? ⟨w.heap.size, 0, none⟩ = some (.int .i64 p) ∧ wr.cell? ⟨w.heap.size, 1, none⟩ = some (.int .i64 q) ∧ wr.cell? ⟨w.heap.size, 2, none⟩ = some (.int .i64 y) ∧ w.heap.size < wr.heap.size) (fun _ n' _ _ => (intOf n').toNat)
  case atStart =>
    refine ⟨40, n, 1, a, HN.out, by omega, rfl, rfl, rfl, Lib.hid (by omega), HA, HR, Below.alloc (Below.refl _ _) (Nat.le_refl _) _, ?_, ?_, ?_, by simp⟩ <;> rw [cell_of_row _ _ _ _ _ (0, 0) (heap_alloc_new w _)] <;> rfl
  case round =>
    obtain ⟨k, m, u, v, hm, hk, rfl, rfl, rfl, hu, hv, hP, hbw, hc0, hc1, hc2, hlt⟩ := hrel
    have hm40 : m < 1099511627776 := Nat.lt_of_lt_of_le hm (Nat.pow_le_pow_right (by decide) hk)
    rcases Nat.eq_zero_or_pos m with h0 | h0
    · subst h0
      have hr := Lib.hid ((powG_end M k u v).symm.trans hP.out)
      go_wp2
      go_ret
      exact ⟨ret_int hr.out, hbw⟩
    · rcases k with _ | k
      · simp at hm; omega
      · have hp0 : 0 < (m : Int) := by omega
        have hm2 : m / 2 < 2 ^ k := by rw [Nat.pow_succ] at hm; omega
        have HM2 := Lib.hid hm2
        have hk2 : k ≤ 40 := by omega
        clear hm hk hm2
        rcases Nat.mod_two_eq_zero_or_one m with h2 | h2
        · have hev : ((m : Int) % 2 == 1) = false := by rw [beq_eq_false_iff_ne]; omega
          have HP := Lib.hid ((powG_even h2 (show m ≠ 0 by omega)).symm.trans hP.out)
          clear h2 hP
          go_wp2_with fail
          refine (HM.out v v _ hv.out hv.out).mono ?_
          rintro e w1 ⟨rfl, hb1⟩
          have hb1s := hb1.size
          obtain ⟨e0, e1, e2⟩ := cell3 hb1 hlt hc0 hc1 hc2
          go_wp2_with fail
          exact ⟨⟨k, m / 2, _, _, HM2.out, hk2, by go_num, rfl, rfl, hu, Lib.hid (HI.out v v hv.out hv.out), HP, bt hbw hb1, e0, e1, e2, by omega⟩, by simp [intOf]; omega⟩
        · have hev : ((m : Int) % 2 == 1) = true := by rw [beq_iff_eq]; omega
          have HP := Lib.hid ((powG_odd h2).symm.trans hP.out)
          clear h2 hP
          go_wp2_with fail
          refine (HM.out u v _ hu.out hv.out).mono ?_
          rintro e w1 ⟨rfl, hb1⟩
          have hb1s := hb1.size
          obtain ⟨e0, e1, e2⟩ := cell3 hb1 hlt hc0 hc1 hc2
          have hlt1 : w.heap.size < w1.heap.size := by omega
          go_wp2_with fail
          refine (HM.out v v _ hv.out hv.out).mono ?_
          rintro e w2 ⟨rfl, hb2⟩
          have hb2s := hb2.size
          obtain ⟨f0, f1, f2⟩ := cell3 hb2 hlt1 e0 e1 e2
          go_wp2_with fail
          exact ⟨⟨k, m / 2, _, _, HM2.out, hk2, by go_num, rfl, rfl, Lib.hid (HI.out u v hu.out hv.out), Lib.hid (HI.out v v hv.out hv.out), HP, bt (bt hbw hb1) hb2, f0, f1, f2, by omega⟩, by simp [intOf]; omega⟩
theorem codeF_zero1 {p q y a : Int} (h : codeF p q y [a] = 0) : fieldB p q y = true ∧ 0 ≤ a ∧ a ≤ fsize p q - 1 := codeF_zero h
theorem FieldFacts.pow {p q y : Int} {N : Nat} {t : Int → Int} (F : FieldFacts p q y N t) (i n : Nat) (hn : n < 2 ^ 40) : powG (fMul p q y) 40 1 (seqT t i) n = seqT t (i * n) := by
  have := powG_seq (m := fMul p q y) (t := t) F.mul 40 0 i n hn
  rw [Nat.zero_add] at this
  exact this
theorem FieldFacts.inv {p q y : Int} {N : Nat} {t : Int → Int} (F : FieldFacts p q y N t) {i : Nat} (hi : i < N) : powG (fMul p q y) 40 1 (seqT t i) (N - 1) = seqT t ((N - i) % N) := by
  have hN := F.small
  rw [F.pow i (N - 1) (by omega), seqT_mod F.ok]
  rcases Nat.eq_zero_or_pos i with h0 | h0
  · subst h0
    rw [Nat.zero_mul, Nat.sub_zero]
    have := seqT_per F.ok 0
    rw [Nat.zero_add] at this
    exact this.symm
  · have e : i * (N - 1) = (N - i) + N * (i - 1) := by
      obtain ⟨k, rfl⟩ : ∃ k, i = k + 1 := ⟨i - 1, by omega⟩
      obtain ⟨m, rfl⟩ : ∃ m, N = m + 1 := ⟨N - 1, by omega⟩
      rw [show m + 1 - 1 = m by omega, show k + 1 - 1 = k by omega, Nat.add_mul, Nat.add_mul, Nat.mul_comm m k]
      omega
    rw [e, seqT_perk F.ok]
set_option maxHeartbeats 1000000 in
theorem calcInv (g : Nat) (p q y a : Int) (m : Bool) (w : World) (h : fieldB p q y = true) (ha : 0 ≤ a ∧ a ≤ fsize p q - 1) (h0 : a ≠ 0)
    (ht : Tab 60 w g m (fsize p q) (expT (tF p q y) (fN p q)) (logT (tF p q y) (fN p q))) :
    Calls Try.prog 65 #[.pointer (some ⟨g, 0, none⟩), .int .i64 a] w (RetQ (.int .i64 (powG (fMul p q y) 40 1 a (fsize p q - 2).toNat)) w) := by
  have F := field_facts h
  obtain ⟨i, hi, ea, la⟩ := F.elem ha h0
  have hs := F.size
  have hN := F.small
  have hr := Lib.hid (show powG (fMul p q y) 40 1 a (fsize p q - 2).toNat = seqT (tF p q y) ((fN p q - i) % fN p q) by rw [ea, ← F.inv hi]; congr 1; omega)
  obtain ⟨an, rfl⟩ := Int.eq_ofNat_of_zero_le ha.1
  have hsz := ht.size_
  have c1 := ht.log_ (i := an) (by omega)
  have c3 := ht.exp_ (i := (fN p q - i) % fN p q) (by have := Nat.mod_lt (fN p q - i) (show fN p q > 0 by omega); omega)
  simp only [Int.toNat_natCast] at la
  rw [la] at c1
  rw [expT_at (Nat.mod_lt _ (by omega))] at c3
  rw [hr.out]
  obtain ⟨v, hv⟩ : ∃ v, seqT (tF p q y) ((fN p q - i) % fN p q) = v := ⟨_, rfl⟩
  rw [hv] at c3 ⊢
  rw [← hs] at hsz
  have han : an < 1021 := by omega
  obtain ⟨N, eN⟩ : ∃ N, fN p q = N := ⟨_, rfl⟩
  rw [eN] at hsz c3 hN hi
  have hN2 := hN.2
  have hN1 := hN.1
  clear F ht hv hr ea la hs hN h0 ha eN h
  have b1 : (0 : Int) ≤ (an : Int) := by omega
  have b2 : (an : Int) < 1021 := by omega
  have w1 : IntKind.i64.wrap ((N : Int) - (i : Int)) = (N : Int) - (i : Int) := IntWalk.i64_in _ (by omega)
  have w2 : IntKind.i64.wrap (N : Int) = (N : Int) := IntWalk.i64_in _ (by omega)
  have b5 : (0 : Int) ≤ (N : Int) - (i : Int) := by omega
  have b6 : (0 : Int) < (N : Int) := by omega
  have b7 : ¬ N = 0 := by omega
  have hK : (N - i) % N < N := Nat.mod_lt _ (by omega)
  have w3 : ((N : Int) - (i : Int)).tmod (N : Int) = (((N - i) % N : Nat) : Int) := by rw [Int.tmod_eq_emod_of_nonneg b5, Int.natCast_emod, Int.natCast_sub (by omega)]
  obtain ⟨K, eK⟩ : ∃ K, (N - i) % N = K := ⟨_, rfl⟩
  rw [eK] at c3 w3 hK
  have b8 : (0 : Int) ≤ (K : Int) := by omega
  have b9 : (K : Int) < 1021 := by omega
  clear eK
  go_enter Try.func65, Try.ntmps65
  go_wp2
  go_quiet (fail)
  go_wp2
  go_ret
  exact ⟨rfl, _, rfl⟩
set_option maxHeartbeats 1000000 in
theorem calcPower (g n : Nat) (p q y : Int) (m : Bool) (w : World) (h : fieldB p q y = true) (hn : n ≤ 2000000000)
    (ht : Tab 60 w g m (fsize p q) (expT (tF p q y) (fN p q)) (logT (tF p q y) (fN p q))) :
    Calls Try.prog 67 #[.pointer (some ⟨g, 0, none⟩), .int .i64 n] w (RetQ (.int .i64 (seqT (tF p q y) n)) w) := by
  have F := field_facts h
  have hs := F.size
  have hN := F.small
  have hsz := ht.size_
  have c3 := ht.exp_ (i := n % fN p q) (by have := Nat.mod_lt n (show fN p q > 0 by omega); omega)
  rw [expT_at (Nat.mod_lt _ (by omega)), seqT_mod F.ok] at c3
  obtain ⟨v, hv⟩ : ∃ v, seqT (tF p q y) n = v := ⟨_, rfl⟩
  rw [hv] at c3 ⊢
  rw [← hs] at hsz
  obtain ⟨N, eN⟩ : ∃ N, fN p q = N := ⟨_, rfl⟩
  rw [eN] at hsz c3 hN
  have hN2 := hN.2
  have hN1 := hN.1
  clear F ht hv hs hN eN h
  have w2 : IntKind.i64.wrap (N : Int) = (N : Int) := IntWalk.i64_in _ (by omega)
  have b5 : (0 : Int) ≤ (n : Int) := by omega
  have b6 : (0 : Int) < (N : Int) := by omega
  have b7 : ¬ N = 0 := by omega
  have hK : n % N < N := Nat.mod_lt _ (by omega)
  have w3 : (n : Int).tmod (N : Int) = ((n % N : Nat) : Int) := by rw [Int.tmod_eq_emod_of_nonneg b5, Int.natCast_emod]
  obtain ⟨K, eK⟩ : ∃ K, n % N = K := ⟨_, rfl⟩
  rw [eK] at c3 w3 hK
  have b8 : (0 : Int) ≤ (K : Int) := by omega
  have b9 : (K : Int) < 1021 := by omega
  clear eK
  go_enter Try.func67, Try.ntmps67
  go_wp2
  go_quiet (fail)
  go_wp2
  go_ret
  exact ⟨rfl, _, rfl⟩
end Go.Proofs.Ytkcbkgghcpiboaa
