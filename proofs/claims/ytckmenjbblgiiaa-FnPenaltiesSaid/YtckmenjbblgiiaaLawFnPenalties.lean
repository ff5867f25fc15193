/-
  The law FnPenalties holds at every input.
  Conditions: none.
-/
import Derived.Test.YtckmenjbblgiiaaPenG
import Derived.Test.YtckmenjbblgiiaaPenT
import Derived.Test.YtckmenjbblgiiaaLib
set_option linter.unusedVariables false
namespace Go.Proofs.Ytckmenjbblgiiaa
open Go.RowKit Go.G8
theorem drawPenaltyOf_any (a : Option Addr) (n c : Nat) (xs : List Int) (w : World) (h : Rd .u8 w a n xs) (hn : n ≤ 4096) :
    Calls Try.prog 34 #[.slice a n c] w (fun e w' => ∃ (r q : Int) (b : Option Addr) (m k : Nat) (ys : List Int), e = .returned (.agg #[.int .i64 r, .int .i64 q, .slice b m k]) ∧ (-1 ≤ r ∧ r ≤ 40001) ∧ (1 ≤ q ∧ q ≤ 9) ∧ m ≤ 100 ∧ sm ys ∧ Ow .i64 2 w.heap.size w' b m k ys ∧ Below w.heap.size w w') := by
  have hR := BlkV.new w (.int .i64 0) (.int .i64 0) (.slice none 0 0) 41
  have hal := Below.alloc (Below.refl w.heap.size w) (Nat.le_refl _) (.cells #[.int .i64 0, .int .i64 0, .slice none 0 0] 41)
  have hx := h.to hal
  go_enter Try.func34, Try.ntmps34
  go_wp2_with fail
  generalize (w.alloc (.cells #[.int .i64 0, .int .i64 0, .slice none 0 0] 41)) = W0 at *
  refine (l01From_any a n c xs _ hx hn).mono ?_
  rintro e w1 ⟨S, rfl, hS, hb1⟩
  have hR1 := hR.under hb1 hR.1
  have hSle := Src_le hS
  have hRw := hR.1
  have hs1 := hb1.size
  go_wp2_with fail
  refine (l16Draw_any _ S _ hS).mono ?_
  rintro e w2 ⟨r, q, b, m, k, ys, rfl, hr, hq, hm, hsm, ho, hS2, hg2⟩
  have hR2 := hR1.grown hg2 (fun e => by injection e; omega)
  have hB2 := bt hal (hb1.trans (below_src hS hg2))
  obtain ⟨-, r2, r3, r4, r5⟩ := id hR2
  have r50 := r5 0
  have hs2 := hg2.size
  clear hS hS2 hg2 hb1 hx hal hR hR1
  go_wp2_with fail
  obtain ⟨e0, e1, e2, e3⟩ := set3v w2 w.heap.size (.int .i64 r) (.int .i64 q) (.slice b m k) r2 r3 r4
  refine bodyPost_ret (v := .agg #[.int .i64 r, .int .i64 q, .slice b m k]) (by simp [results, Try.results34, go_sem, e0, e1, e2]) rfl ⟨r, q, b, m, k, ys, rfl, hr, hq, hm, hsm, (ho.kept e3 (fun g e => by injection e; omega)).more (by omega), hB2.grown e3 (by omega) (fun g e => by injection e; omega)⟩
set_option maxHeartbeats 2000000 in
set_option maxRecDepth 20000 in
theorem law_FnPenalties (a : Option Addr) (n c : Nat) (xs : List Int) (w : World) (h : Rd .u8 w a n xs) :
    Calls Try.prog 7 #[.slice a n c] w (Ret (.bool true) w) := by
  by_cases hbig : 4096 < n
  · go_enter Try.func7, Try.ntmps7
    go_wp2_with fail
    refine (big_any a n c _).mono ?_
    rw [decide_eq_true (by omega)]
    rintro e w1 ⟨rfl, rfl⟩
    go_wp2_with fail
    go_ret
    exact ⟨rfl, Below.refl _ _⟩
  · have hn : n ≤ 4096 := by omega
    go_enter Try.func7, Try.ntmps7
    go_wp2_with fail
    refine (big_any a n c _).mono ?_
    rw [decide_eq_false (by omega)]
    rintro e w1 ⟨rfl, rfl⟩
    go_wp2_with fail
    refine (drawPenaltyOf_any a n c xs _ h hn).mono ?_
    rintro e w1 ⟨r, q, b, m, k, ys, rfl, hr, hq, hm, hsm, ho, hb1⟩
    clear hbig h
    obtain ⟨s1, s2, s3, s4, s5⟩ := grid_start w1 (.int .i64 r) (.int .i64 q) (.slice b m k) 41
    have hcap := ho.cap
    have hrd := (ho.keep s1).rd (sm_fits hsm)
    have hB1 := bt hb1 s1
    have hl := ho.len
    go_wp2_with fail
    generalize (w1.alloc (.cells #[.int .i64 r, .int .i64 q, .slice b m k] 41)) = W at *
    have HG := Lib.hid (grid_keep s2 s3 s4 s5)
    refine (implPenaltyOf_any r q b m k ys _ hrd (by omega) hcap).mono ?_
    rintro e w3 ⟨rfl, hb3⟩
    obtain ⟨d0, d1, d2⟩ := HG.out _ hb3
    have hrd3 := hrd.to hb3
    clear s1 s3 s4 s5
    go_wp2_with fail
    refine (specPenaltyOf_any r q b m k ys _ hrd3 (by omega) hcap).mono ?_
    rintro e w4 ⟨rfl, hb4⟩
    have hb4' := bt hb3 hb4
    obtain ⟨f0, f1, f2⟩ := HG.out _ hb4'
    have hrd4 := hrd.to hb4'
    have hB4 := bt hB1 hb4'
    clear hb3 hb4 d0 d1 d2 hrd3
    by_cases hok : gridB r q ys = true ∧ knownB ys = true
    · obtain ⟨R, C, b0, o0, rfl, rfl, rfl, hRC, hm4, hR, hC, hz⟩ := pen_ok hrd4 hok.1 hok.2
      obtain ⟨i0, hi, hz0, hz1, hz2⟩ := info_parts info_int64
      have hpp := pen_yes hok.1 hok.2
      have htr := Lib.hid (penOf_tr hok.1 hok.2)
      have htz := Lib.hid (fun v => colsTo_zo (R := R) (C := C) hz.out v)
      have hcz := Lib.hid (fun v u => colL_zo (C := C) (v := v) (u := u) hz.out)
      have hof := Lib.hid (show rPenOf R C ys = (((runsP R C ys : Nat) : Int) + ((squaresP R C ys : Nat) : Int) + lastP (darkI ys) ((R : Int) * (C : Int)), 0) from if_pos hok)
      have b1 := runsP_le hR.2 hC.2 ys
      have b2 := squaresP_le hR.2 hC.2 ys
      have b3 := lastP_bd hz.out hl ⟨by have := Nat.mul_le_mul hR.1 hC.1; have := hRC.out; omega, hm4⟩
      rw [show (m : Int) = (R : Int) * (C : Int) by rw [hRC.out]; exact Int.natCast_mul R C] at b3
      have HP := Lib.hid (implPenaltyParts_any R C _ m k ys _ hrd4 (by omega) hcap)
      rw [hpp] at HP
      unfold rParts at HP
      rw [Int.toNat_natCast, Int.toNat_natCast] at HP
      rw [hof.out] at htr
      rw [hof.out]
      clear hof hpp hok
      generalize runsP R C ys = X at *
      generalize squaresP R C ys = Y at *
      generalize lastP (darkI ys) ((R : Int) * (C : Int)) = Z at *
      obtain ⟨T, hT⟩ : ∃ T, (X : Int) + (Y : Int) + Z = T := ⟨_, rfl⟩
      rw [hT] at htr ⊢
      have hTT : (T != T) = false := by simp
      have h00 : ((0 : Int) != 0) = false := by simp
      go_wp2_with fail
      refine HP.out.mono ?_
      rintro e w5 ⟨a5, n5, c5, rfl, ho5, hb5⟩
      obtain ⟨rfl, g5, rfl, q1, q2, q3⟩ := three_of ho5
      have hb5' := hb4'.trans (hb5.mono hb4'.size)
      have hB5 := bt hB4 hb5
      clear hb5 hB4 f0 f1 f2 HP hrd4
      go_wp2_with fail
      go_loop [10, 11] (fun s i => (i = .int .i64 0 ∧ s = .int .i64 0) ∨ (i = .int .i64 1 ∧ s = .int .i64 (X : Int)) ∨ (i = .int .i64 2 ∧ s = .int .i64 ((X : Int) + Y)) ∨ (i = .int .i64 3 ∧ s = .int .i64 ((X : Int) + Y + Z))) (fun _ i => 3 - (intOf i).toNat)
      case atStart => exact .inl ⟨rfl, rfl⟩
      case round =>
        rcases hrel with ⟨rfl, rfl⟩ | ⟨rfl, rfl⟩ | ⟨rfl, rfl⟩ | ⟨rfl, rfl⟩
        · go_wp2_with fail
          go_round
          case rel => exact .inr (.inl ⟨by go_num, by go_num⟩)
          case measure => simp [intOf]
        · go_wp2_with fail
          go_round
          case rel => exact .inr (.inr (.inl ⟨by go_num, by go_num⟩))
          case measure => simp [intOf]
        · go_wp2_with fail
          go_round
          case rel => exact .inr (.inr (.inr ⟨by go_num, by go_num⟩))
          case measure => simp [intOf]
        · rw [hT]
          have hE := OwV.empty 2 1 w5.heap.size w5 (Nat.le_refl _)
          clear q1 q2 q3 ho5 hT b1 b2 b3
          go_wp2_with fail
          go_loopw [12, 13] (fun l i wr => ∃ (v : Nat) (a' : Option Addr) (n' c' : Nat), v ≤ C ∧ i = .int .i64 (v : Int) ∧ l = .slice a' n' c' ∧ Hid (n' = v * R) ∧ Ow .i64 2 w5.heap.size wr a' n' c' (colsTo R C ys v) ∧ Below w5.heap.size w5 wr) (fun _ i _ => C - (intOf i).toNat)
          case atStart => exact ⟨0, _, 0, 0, by omega, rfl, rfl, (by show 0 = 0 * R; rw [Nat.zero_mul]), hE, (Below.refl _ _).alloc (Nat.le_refl _) _⟩
          case round =>
            clear hE
            obtain ⟨v, a', n', c', hv, rfl, rfl, hn', ho, hB⟩ := hrel
            obtain ⟨d0, d1, d2⟩ := HG.out _ (hb5'.trans (hB.mono hb5'.size))
            by_cases hlt : v < C
            · go_wp2_with fail
              clear d0 d1 d2
              go_loopw [12, 14] (fun l i wr => ∃ (u : Nat) (a' : Option Addr) (n' c' : Nat), u ≤ R ∧ i = .int .i64 (u : Int) ∧ l = .slice a' n' c' ∧ Hid (n' = v * R + u) ∧ Ow .i64 2 w5.heap.size wr a' n' c' (colsTo R C ys v ++ colL C ys v u) ∧ Below w5.heap.size w5 wr) (fun _ i _ => R - (intOf i).toNat)
              case atStart => exact ⟨0, _, n', _, by omega, rfl, rfl, hn'.out, (by have e : colL C ys v 0 = [] := rfl; rw [e, List.append_nil]; exact ho), hB⟩
              case round =>
                clear hB ho
                obtain ⟨u, a2, n2, c2, hu, rfl, rfl, hn2, ho, hB⟩ := hrel
                have hBw := hb5'.trans (hB.mono hb5'.size)
                obtain ⟨d0, d1, d2⟩ := HG.out _ hBw
                have hn2b : n2 ≤ 1000000 := by
                  have h1 := Nat.mul_le_mul (show v ≤ 40000 by omega) (show R ≤ 40000 from hR.2)
                  have h2 := hn2.out
                  have h3 : (v + 1) * R ≤ C * R := Nat.mul_le_mul_right R hlt
                  rw [Nat.succ_mul, Nat.mul_comm C R] at h3
                  have h4 := hRC.out
                  omega
                by_cases hlt2 : u < R
                · obtain ⟨e1, e2, e3⟩ := at_bnd hRC.out hR.2 hC.2 hlt2 hlt
                  obtain ⟨f1, f2⟩ := cell_of_rd (hrd.to hBw) e3
                  have hsn := Lib.hid (colL_succ C ys v u)
                  generalize cellN ys (u * C + v) = x at *
                  generalize u * C + v = I at *
                  go_wp2_with (at_builtin; refine wpList_push .i64 _ rfl _ _ 25 rfl w5.heap.size 2 _ i0 8 Try.underlying25 hi hz0 hz1 hz2 (by omega) a2 n2 c2 _ _ rfl ho rfl (by omega) hB.size ?_; intro a3 n3 c3 w6 ho3 hbel3)
                  rw [List.append_assoc, ← hsn.out] at ho3
                  have hn3 := Lib.hid (show n3 = v * R + (u + 1) by have e := ho3.len; rw [List.length_append, colsTo_len, colL_len] at e; exact e.symm)
                  have hB3 := hB.trans hbel3
                  clear ho hbel3 hB d0 d1 d2 e1 e2 f1 f2 hBw
                  go_roundw
                  case rel => exact ⟨u + 1, a3, n3, c3, by omega, by go_num, rfl, hn3, ho3, hB3⟩
                  case measure => simp [intOf]; omega
                · have huR : u = R := by omega
                  have hn3 := Lib.hid (show n2 = (v + 1) * R by rw [hn2.out, huR, Nat.succ_mul])
                  have ho3 : Ow .i64 2 w5.heap.size wr a2 n2 c2 (colsTo R C ys (v + 1)) := by rw [huR] at ho; exact ho
                  clear ho
                  go_wp2_with fail
                  go_roundw
                  case rel => exact ⟨v + 1, a2, n2, c2, by omega, by go_num, rfl, hn3, ho3, hB⟩
                  case measure => simp [intOf]; omega
            · have hvC : v = C := by omega
              rw [hvC] at ho
              have hrd' := ho.rd (fun x hx => by have := htz.out C x hx; show -9223372036854775808 ≤ x ∧ x ≤ 9223372036854775807; omega)
              have hcap' := ho.cap
              have hnb : n' ≤ 1000000000 := by
                have h1 := hn'.out
                rw [hvC, Nat.mul_comm] at h1
                have := hRC.out
                omega
              have HPO := implPenaltyOf_any C R a' n' c' (colsTo R C ys C) wr hrd' hnb hcap'
              rw [htr.out] at HPO
              go_wp2_with fail
              refine HPO.mono ?_
              rintro e w6 ⟨rfl, hb6⟩
              have hTb : (T == T) = true := by simp
              go_wp2_with fail
              go_ret
              exact ⟨rfl, bt hB5 (hB.trans (hb6.mono hB.size))⟩
    · have hno := (pen_no hok).2
      rw [hno]
      have e1 : ((1 : Int) != 1) = false := by simp
      go_wp2_with fail
      go_ret
      exact ⟨rfl, hB4⟩
end Go.Proofs.Ytckmenjbblgiiaa
