/-
  The law FnPatterns holds at every input.
  Conditions: none.
-/
import Derived.Test.YtckmenjbblgiiaaPatJ
import Derived.Test.YtckmenjbblgiiaaDrawS
import Derived.Test.YtckmenjbblgiiaaLib
set_option linter.unusedVariables false
namespace Go.Proofs.Ytckmenjbblgiiaa
open Go.RowKit Go.G8
set_option maxRecDepth 20000 in
theorem drawPatternAt_any (a : Option Addr) (n c : Nat) (xs : List Int) (w : World) (h : Rd .u8 w a n xs) (hn : n ≤ 4096) :
    Calls Try.prog 13 #[.slice a n c] w (fun e w' => ∃ r : Int, e = .returned (.int .i64 r) ∧ (-1 ≤ r ∧ r ≤ 120) ∧ Below w.heap.size w w') := by
  go_enter Try.func13, Try.ntmps13
  go_wp2_with fail
  refine (l01From_any a n c xs _ h hn).mono ?_
  rintro e w1 ⟨S, rfl, hS, hb1⟩
  clear h
  go_wp2_with fail
  refine (l01Next_any _ S 122 _ hS (by decide)).mono ?_
  rintro e w2 ⟨r, rfl, hr0, hr1, hS2, hg2⟩
  have hb2 := hb1.trans (below_src hS hg2)
  have e1 : IntKind.i64.wrap (r - 1) = r - 1 := IntWalk.i64_in _ (by omega)
  go_wp2_with fail
  go_ret
  exact ⟨r - 1, rfl, by omega, hb2⟩
theorem find0_at {vs : List Int} : ∀ (rs : List (List Int)) (k j : Nat), rs.Nodup → rs[j]? = some vs → find0 vs rs k = some (k + j) := by
  intro rs
  induction rs with
  | nil => intro k j _ h; simp at h
  | cons q rs ih =>
    intro k j hd h
    obtain ⟨h1, h2⟩ := List.nodup_cons.1 hd
    unfold find0
    rcases j with _ | j
    · simp at h
      rw [if_pos h]
      rfl
    · simp at h
      rw [if_neg (fun e => h1 (by rw [e]; exact List.mem_of_getElem? h)), ih (k + 1) j h2 h]
      congr 1
      omega
theorem index_back {I : Nat} {r : List Int} (h : allP[I]? = some r) : rPatternIndex r = ((I : Int), 0) := by
  unfold rPatternIndex
  rw [find0_at allP 0 I allP_nodup h, Nat.zero_add]
/-- The first index at which two lists differ, and that the first is less there. -/
def lexB : List Int → List Int → Bool
  | x :: xs, y :: ys => if x = y then lexB xs ys else decide (x < y)
  | _, _ => false
theorem lex_next {I : Nat} (h : I < 119) : lexB (allP[I]?.getD []) (allP[I + 1]?.getD []) = true := by
  have : ((List.range 119).all fun i => lexB (allP[i]?.getD []) (allP[i + 1]?.getD [])) = true := by decide +kernel
  exact List.all_eq_true.1 this I (by simpa using h)
theorem lex_at {xs ys : List Int} {k : Nat} {x y : Int} (h : lexB xs ys = true) (he : xs.take k = ys.take k) (hx : xs[k]? = some x) (hy : ys[k]? = some y) (hne : ¬ x = y) : x < y := by
  induction xs generalizing ys k with
  | nil => simp at hx
  | cons a xs ih =>
    cases ys with
    | nil => simp at hy
    | cons b ys =>
      rcases k with _ | k
      · simp at hx hy
        subst hx hy
        simp only [lexB, if_neg hne, decide_eq_true_eq] at h
        exact h
      · simp at hx hy he
        obtain ⟨rfl, he⟩ := he
        simp only [lexB, if_true] at h
        exact ih h he hx hy
theorem lex_same {xs ys : List Int} (h : lexB xs ys = true) (hl : xs.length = ys.length) : xs ≠ ys := by
  intro e
  subst e
  clear hl
  induction xs with
  | nil => simp [lexB] at h
  | cons a xs ih => simp only [lexB, if_true] at h; exact ih h
set_option maxHeartbeats 1000000 in
set_option maxRecDepth 20000 in
theorem law_FnPatterns (a : Option Addr) (n c : Nat) (xs : List Int) (w : World) (h : Rd .u8 w a n xs) :
    Calls Try.prog 3 #[.slice a n c] w (Ret (.bool true) w) := by
  by_cases hbig : 4096 < n
  · go_enter Try.func3, Try.ntmps3
    go_wp2_with fail
    refine (big_any a n c _).mono ?_
    rw [decide_eq_true (by omega)]
    rintro e w1 ⟨rfl, rfl⟩
    go_wp2_with fail
    go_ret
    exact ⟨rfl, Below.refl _ _⟩
  · have hn : n ≤ 4096 := by omega
    go_enter Try.func3, Try.ntmps3
    go_wp2_with fail
    refine (big_any a n c _).mono ?_
    rw [decide_eq_false (by omega)]
    rintro e w1 ⟨rfl, rfl⟩
    go_wp2_with fail
    refine (drawPatternAt_any a n c xs _ h hn).mono ?_
    rintro e w1 ⟨i, rfl, hi, hb1⟩
    clear hbig h
    have hok := rPatternAt_ok i
    have HI := Lib.hid (fun w => implPatternAt_any i w)
    have HS := Lib.hid (fun w => specPatternAt_any i w)
    have e1 : IntKind.i64.wrap (i + 1) = i + 1 := IntWalk.i64_in _ (by omega)
    by_cases h0 : 0 ≤ i ∧ i ≤ 119
    · obtain ⟨r, hr, hra⟩ := rPatternAt_yes h0
      obtain ⟨I, rfl⟩ := Int.eq_ofNat_of_zero_le h0.1
      rw [Int.toNat_natCast] at hr
      have hp := allP_row r (List.mem_of_getElem? hr)
      rw [hra] at HI HS
      go_wp2_with fail
      refine (HI.out _).mono ?_
      rintro e w2 ⟨a2, n2, c2, rfl, ho2, hb2⟩
      have hB2 := bt hb1 hb2
      have hfr := row_fits (List.mem_of_getElem? hr)
      have hR2 := ho2.rd hfr
      have hn2 : n2 = 8 := by rw [← ho2.len]; exact hp.1
      subst hn2
      clear hb1 hb2 ho2
      go_wp2_with fail
      refine (HS.out _).mono ?_
      rintro e w3 ⟨a3, n3, c3, rfl, ho3, hb3⟩
      have hB3 := bt hB2 hb3
      replace hR2 := hR2.to hb3
      have hR3 := ho3.rd hfr
      clear hb3 ho3 hB2
      go_wp2_with fail
      refine (likeInts_same a2 a3 8 n3 c2 c3 r _ hR2 hR3 (by omega)).mono ?_
      rintro e w4 ⟨rfl, hq4⟩
      have hB4 := bt hB3 (below_q hq4)
      replace hR2 := hR2.to (below_q hq4)
      clear hq4 hR3 hB3
      have hib := index_back hr
      go_wp2_with fail
      refine (implPatternIndex_any a2 8 c2 r _ hR2 (by omega)).mono ?_
      rw [hib]
      rintro e w5 ⟨rfl, hb5⟩
      have hB5 := bt hB4 hb5
      replace hR2 := hR2.to hb5
      clear hb5 hB4 hib
      have hII : ((I : Int) != (I : Int)) = false := by simp
      by_cases hl : I < 119
      · have hlex := lex_next hl
        obtain ⟨q, hq⟩ : ∃ q, allP[I + 1]? = some q := ⟨_, List.getElem?_eq_getElem (by rw [allP_len]; omega)⟩
        rw [hr, hq] at hlex
        simp only [Option.getD_some] at hlex
        have hq8 := allP_row q (List.mem_of_getElem? hq)
        have hqf := row_fits (List.mem_of_getElem? hq)
        have hqa : rPatternAt ((I : Int) + 1) = (q, 0) := by
          unfold rPatternAt
          rw [if_pos (by omega), show ((I : Int) + 1).toNat = I + 1 by omega, hq]
          rfl
        go_wp2_with fail
        refine (implPatternAt_any ((I : Int) + 1) _).mono ?_
        rw [hqa]
        rintro e w6 ⟨a6, n6, c6, rfl, ho6, hb6⟩
        have hB6 := bt hB5 hb6
        replace hR2 := hR2.to hb6
        have hR6 := ho6.rd hqf
        have hn6 : n6 = 8 := by rw [← ho6.len]; exact hq8.1
        subst hn6
        clear hb6 ho6 hqa hB5
        go_wp2_with fail
        have HLex := Lib.hid hlex
        have HSame := Lib.hid (lex_same hlex (hp.1.trans hq8.1.symm))
        have HR := Lib.hid hp.1
        have HQ := Lib.hid hq8.1
        clear hlex hp hq8 hqf hfr hr hq hra hII hok HI HS e1
        go_loopw [12] (fun i wr => ∃ k j : Nat, k ≤ 8 ∧ i = .int .i64 (k : Int) ∧ wr = w6.drewN j ∧ Hid (r.take k = q.take k)) (fun i _ => 8 - (intOf i).toNat)
        case atStart => exact ⟨0, 0, by omega, rfl, rfl, rfl⟩
        case round =>
          obtain ⟨k, j, hk, rfl, rfl, heq⟩ := hrel
          by_cases hlt : k < 8
          · obtain ⟨b1, o1, x, rfl, -, hc1, hx, hx1, hx2⟩ := hR2.at_ hlt
            obtain ⟨b2, o2, y, rfl, -, hc2, hy, -, -⟩ := hR6.at_ hlt
            have hl1 : (0 : Int) ≤ (k : Int) := by omega
            have hl2 : (k : Int) < 8 := by omega
            by_cases hxy : x = y
            · subst hxy
              have hxx : (x != x) = false := by simp
              have heq2 := Lib.hid (show r.take (k + 1) = q.take (k + 1) by rw [take_snoc hx.out, take_snoc hy.out, heq.out])
              go_wp2
              go_quiet (fail)
              go_wp2
              go_roundw
              case rel => exact ⟨k + 1, _, by omega, by go_num, rfl, heq2⟩
              case measure => simp [intOf]; omega
            · have hxx : (x != y) = true := by rw [bne_iff_ne]; exact hxy
              have hless := lex_at HLex.out heq.out hx.out hy.out hxy
              have hdl : decide (x < y) = true := decide_eq_true hless
              clear hxy hless
              go_wp2
              go_quiet (fail)
              go_wp2
              go_quiet (fail)
              go_wp2
              go_ret
              exact ⟨rfl, below_drewN (below_drewN (below_drewN hB6 _) _) _⟩
          · obtain rfl : k = 8 := by omega
            exact absurd (by
              have := heq.out
              rwa [List.take_of_length_le (by rw [HR.out]; exact Nat.le_refl _), List.take_of_length_le (by rw [HQ.out]; exact Nat.le_refl _)] at this) HSame.out
      · have hqa : rPatternAt ((I : Int) + 1) = ([], 2) := rPatternAt_no (by omega)
        have hd : ((I : Int) == 119) = true := by rw [beq_iff_eq]; omega
        clear hl h0 hi
        go_wp2_with fail
        refine (implPatternAt_any ((I : Int) + 1) _).mono ?_
        rw [hqa]
        rintro e w6 ⟨a6, n6, c6, rfl, ho6, hb6⟩
        have hB6 := bt hB5 hb6
        clear hb6 ho6 hqa hB5
        go_wp2_with fail
        go_ret
        exact ⟨rfl, hB6⟩
    · have hra := rPatternAt_no h0
      rw [hra] at HI HS
      go_wp2_with fail
      refine (HI.out _).mono ?_
      rintro e w2 ⟨a2, n2, c2, rfl, ho2, hb2⟩
      have hB2 := bt hb1 hb2
      have hR2 := ho2.rd (fun x hx => by simp at hx)
      obtain rfl : n2 = 0 := by rw [← ho2.len]; rfl
      clear hb1 hb2 ho2
      go_wp2_with fail
      refine (HS.out _).mono ?_
      rintro e w3 ⟨a3, n3, c3, rfl, ho3, hb3⟩
      have hB3 := bt hB2 hb3
      replace hR2 := hR2.to hb3
      have hR3 := ho3.rd (fun x hx => by simp at hx)
      clear hb3 ho3 hB2
      go_wp2_with fail
      refine (likeInts_same a2 a3 0 n3 c2 c3 [] _ hR2 hR3 (by omega)).mono ?_
      rintro e w4 ⟨rfl, hq4⟩
      have hB4 := bt hB3 (below_q hq4)
      go_wp2_with fail
      go_ret
      exact ⟨rfl, hB4⟩
end Go.Proofs.Ytckmenjbblgiiaa
