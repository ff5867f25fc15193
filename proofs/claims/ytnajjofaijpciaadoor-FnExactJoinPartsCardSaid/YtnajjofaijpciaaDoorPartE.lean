/-
  Contracts: the code of a list of parts, by the program.
  Conditions: lists of at most 2^20 parts.
-/
import Derived.Test.YtnajjofaijpciaaDoorPartD
set_option linter.unusedVariables false
namespace Go.Proofs.YtnajjofaijpciaaDoor
open Go.RowKit Go.G8
set_option maxHeartbeats 2000000 in
set_option maxRecDepth 20000 in
theorem partsCode_any (a : Option Addr) (n c : Nat) (l : List PartV) (w : World) (h : RdP w a n l) (hn : n ≤ 1048576) (hl : ∀ p ∈ l, partFits p ∧ p.tx.size ≤ 1048576) :
    Calls Tryd.prog 13 #[.slice a n c] w (Ret (.int .i64 (codeP l)) w) := by
  have hlen := h.len
  by_cases hr : 1 ≤ n ∧ n ≤ 8
  · have H := Lib.hid (fun W (hb : Below w.heap.size w W) => h.to hb)
    have hn1 : ¬ ¬ (1 ≤ l.length ∧ l.length ≤ 8) := by rw [hlen]; exact fun e => e hr
    clear h
    go_enter Tryd.func13, Tryd.ntmps13
    go_wp2_with fail
    refine (inRange_yes _ _ _ _ (by omega)).mono ?_
    rintro e w' ⟨rfl, rfl⟩
    go_wp2_with fail
    go_loopw [13] (fun i wr => ∃ j : Nat, j ≤ n ∧ i = .int .i64 (j : Int) ∧ Hid ((l.take j).all okP = true) ∧ Below w.heap.size w wr) (fun i _ => n - (intOf i).toNat)
    case atStart => exact ⟨0, by omega, rfl, Lib.hid (by simp), Below.refl _ _⟩
    case round =>
      obtain ⟨j, hj, rfl, hall, hB⟩ := hrel
      by_cases hlt : j < n
      · have hq : l[j]? = some (l[j]'(by omega)) := List.getElem?_eq_getElem _
        have hfit := hl _ (List.mem_of_getElem? hq)
        generalize l[j]'(by omega) = q at *
        obtain ⟨b, o, rfl, hlb, c0, c1, c2, c3⟩ := (H.out wr hB).at_ hq
        obtain ⟨⟨f1, f2, f3, f4⟩, f5⟩ := hfit
        have hl1 : (0 : Int) ≤ (j : Int) := by omega
        have hl2 : (j : Int) < (n : Int) := by omega
        have hB2 := Below.alloc hB hB.size (.cells #[.int .i64 q.ix, .int .i64 q.ct, .int .i64 q.pr, .string q.tx] 38)
        have HP := implIsPart_any q.ix q.ct q.pr q.tx (wr.alloc (.cells #[.int .i64 q.ix, .int .i64 q.ct, .int .i64 q.pr, .string q.tx] 38)) f1 f2 f3 (by omega)
        cases hok : okP q with
        | true =>
          have hok' : isPart q.ix q.ct q.pr q.tx = true := hok
          rw [hok'] at HP
          have hall2 := Lib.hid (all_take_step hq hall.out hok)
          go_wp2_with fail
          refine HP.mono ?_
          rintro e w1 ⟨rfl, hb1⟩
          go_wp2_with fail
          go_roundw
          case rel => exact ⟨j + 1, by omega, by go_num, hall2, bt hB2 hb1⟩
          case measure => simp [intOf]; omega
        | false =>
          have hok' : isPart q.ix q.ct q.pr q.tx = false := hok
          rw [hok'] at HP
          have hcode : codeP l = 1 := by
            unfold codeP
            rw [if_neg hn1, if_pos (all_take_bad hq hok)]
          go_wp2_with fail
          refine HP.mono ?_
          rintro e w1 ⟨rfl, hb1⟩
          go_wp2_with fail
          go_ret
          exact ⟨by rw [hcode]; rfl, bt hB2 hb1⟩
      · obtain rfl : j = n := by omega
        have hallo := hall.out
        rw [List.take_of_length_le (by omega)] at hallo
        have HA := Lib.hid hallo
        clear hallo hall
        have hq0 : l[0]? = some (hdP l) := by
          cases l with
          | nil => simp at hlen; omega
          | cons p l => rfl
        generalize hhd : hdP l = hd at *
        go_wp2_with fail
        clear hlt
        go_loopw [23] (fun i wr => ∃ k : Nat, k ≤ j ∧ i = .int .i64 (k : Int) ∧ Hid ((l.take k).all (likeP hd) = true) ∧ Below w.heap.size w wr) (fun i _ => j - (intOf i).toNat)
        case atStart => exact ⟨0, by omega, rfl, Lib.hid (by simp), hB⟩
        case round =>
          clear hB
          obtain ⟨k, hk, rfl, hlk, hB⟩ := hrel
          by_cases hlt : k < j
          · have hq : l[k]? = some (l[k]'(by omega)) := List.getElem?_eq_getElem _
            generalize l[k]'(by omega) = q at *
            obtain ⟨b, o, rfl, hlb, c0, c1, c2, c3⟩ := (H.out wr hB).at_ hq
            obtain ⟨b', o', e', -, p0, p1, p2, p3⟩ := (H.out wr hB).at_ hq0
            injection e' with e'; injection e' with e1 e2; subst e1 e2
            simp only [Nat.zero_mul, Nat.add_zero] at p0 p1 p2 p3
            have hl1 : (0 : Int) ≤ (k : Int) := by omega
            have hl2 : (k : Int) < (j : Int) := by omega
            have hl3 : (0 : Int) < (j : Int) := by omega
            have hB2 := Below.alloc hB hB.size (.cells #[.int .i64 q.ix, .int .i64 q.ct, .int .i64 q.pr, .string q.tx] 38)
            have hal := Below.alloc (Below.refl wr.heap.size wr) (Nat.le_refl _) (.cells #[.int .i64 q.ix, .int .i64 q.ct, .int .i64 q.pr, .string q.tx] 38)
            have x1 : (wr.alloc (.cells #[.int .i64 q.ix, .int .i64 q.ct, .int .i64 q.pr, .string q.tx] 38)).cell? ⟨wr.heap.size, 1, none⟩ = some (.int .i64 q.ct) := by rw [cell_of_row _ _ _ _ _ (0, 0) (heap_alloc_new wr _)]; rfl
            have x2 : (wr.alloc (.cells #[.int .i64 q.ix, .int .i64 q.ct, .int .i64 q.pr, .string q.tx] 38)).cell? ⟨wr.heap.size, 2, none⟩ = some (.int .i64 q.pr) := by rw [cell_of_row _ _ _ _ _ (0, 0) (heap_alloc_new wr _)]; rfl
            go_wp2_with fail
            replace p1 := ((bcell hal).1 b _ hlb).trans p1
            replace p2 := ((bcell hal).1 b _ hlb).trans p2
            clear c0 c1 c2 c3 p0 p3 hal
            generalize (wr.alloc (.cells #[.int .i64 q.ix, .int .i64 q.ct, .int .i64 q.pr, .string q.tx] 38)) = W2 at *
            by_cases hct : q.ct = hd.ct
            · have hb1 : (q.ct != hd.ct) = false := by simp [hct]
              by_cases hpr : q.pr = hd.pr
              · have hb2 : (q.pr != hd.pr) = false := by simp [hpr]
                have hlk2 := Lib.hid (all_take_step hq hlk.out (show likeP hd q = true by unfold likeP; simp [hct, hpr]))
                go_quiet (first | fail)
                go_wp2_with fail
                go_roundw
                case rel => exact ⟨k + 1, by omega, by go_num, hlk2, below_drewN hB2 _⟩
                case measure => simp [intOf]; omega
              · have hb2 : (q.pr != hd.pr) = true := by simp [hpr]
                have hcode : codeP l = 5 := by
                  unfold codeP
                  rw [if_neg hn1, if_neg (by rw [HA.out]; decide), hhd, if_pos (all_take_bad hq (by unfold likeP; simp [hpr]))]
                go_quiet (first | fail)
                go_wp2_with fail
                go_ret
                exact ⟨by rw [hcode]; rfl, below_drewN hB2 _⟩
            · have hb1 : (q.ct != hd.ct) = true := by simp [hct]
              have hcode : codeP l = 5 := by
                unfold codeP
                rw [if_neg hn1, if_neg (by rw [HA.out]; decide), hhd, if_pos (all_take_bad hq (by unfold likeP; simp [hct]))]
              go_quiet (first | fail)
              go_wp2_with fail
              go_ret
              exact ⟨by rw [hcode]; rfl, below_drewN hB2 _⟩
          · obtain rfl : k = j := by omega
            have hlko := hlk.out
            rw [List.take_of_length_le (by omega)] at hlko
            have hcode : codeP l = 0 := by
              unfold codeP
              rw [if_neg hn1, if_neg (by rw [HA.out]; decide), hhd, if_neg (by rw [hlko]; decide)]
            go_wp2_with fail
            go_wp2_with fail
            go_ret
            exact ⟨by rw [hcode]; rfl, hB⟩
  · have hcode : codeP l = 3 := by unfold codeP; rw [if_pos (by rw [hlen]; exact hr)]
    go_enter Tryd.func13, Tryd.ntmps13
    go_wp2_with fail
    refine (inRange_no _ _ _ _ (by omega)).mono ?_
    rintro e w' ⟨rfl, rfl⟩
    go_wp2_with fail
    go_ret
    exact ⟨by rw [hcode]; rfl, Below.refl _ _⟩
end Go.Proofs.YtnajjofaijpciaaDoor
