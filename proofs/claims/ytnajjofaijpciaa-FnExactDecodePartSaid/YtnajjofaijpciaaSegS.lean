/-
  Contracts: the reading of segments on both sides.
  Conditions: lists of at most 8192 bits.
-/
import Derived.Test.YtnajjofaijpciaaSegQ
import Derived.Test.YtnajjofaijpciaaSegI
set_option linter.unusedVariables false
namespace Go.Proofs.Ytnajjofaijpciaa
open Go.RowKit Go.G8
theorem info_segment : (Try.prog.info? 24).map (fun i => (i.zero, i.size, i.bytes)) = some (some (.agg #[.int .i64 0, .string ⟨#[]⟩]), 2, 24) := by kernel_rfl
def SegsR (r : List SegV × Int) (w : World) (e : Ending) (w' : World) : Prop :=
  ∃ (a : Option Addr) (n c : Nat), e = .returned (.tuple #[.slice a n c, .int .i64 r.2]) ∧ n = r.1.length ∧ OwV 24 2 w.heap.size w' a n c (r.1.flatMap sgC) ∧ Below w.heap.size w w'
set_option maxHeartbeats 2000000 in
set_option maxRecDepth 20000 in
theorem l11Segments_any (a : Option Addr) (n c at_ : Nat) (xs : List Int) (w : World) (h : Rd .i64 w a n xs) (hb : Hid (∀ x ∈ xs, x = 0 ∨ x = 1)) (hn : n ≤ 8192) (hat : at_ ≤ n) :
    Calls Try.prog 36 #[.slice a n c, .int .i64 at_] w (SegsR (segsL xs (n + 1) at_ 0 []) w) := by
  obtain ⟨i0, hi, hz0, hz1, hz2⟩ := info_parts info_segment
  have hlen := h.len
  have HO := Lib.hid (OwV.empty 24 2 w.heap.size w (Nat.le_refl _))
  have HA := Lib.hid (Below.alloc (Below.refl w.heap.size w) (Nat.le_refl _) (.cells #[] 24))
  have H0 := Lib.hid h
  clear h
  obtain ⟨R, hR⟩ : ∃ R, segsL xs (n + 1) at_ 0 [] = R := ⟨_, rfl⟩
  rw [hR]
  have HR := Lib.hid hR.symm
  clear hR
  go_enter Try.func36, Try.ntmps36
  go_wp2_with fail
  go_loopw [1, 6, 7] (fun A o tt wr => ∃ (k tot f : Nat) (acc : List SegV) (a' : Option Addr) (c' : Nat), A = .int .i64 k ∧ o = .slice a' acc.length c' ∧ tt = .int .i64 tot ∧ Hid (R = segsL xs f k tot acc) ∧ n + 1 ≤ f + k ∧ sumG acc = tot ∧ tot ≤ 400 ∧ acc.length * 11 ≤ k ∧ k ≤ n ∧ OwV 24 2 w.heap.size wr a' acc.length c' (acc.flatMap sgC) ∧ Below w.heap.size w wr) (fun A _ _ _ => n - (intOf A).toNat)
  case atStart => exact ⟨at_, 0, n + 1, [], _, _, rfl, rfl, rfl, HR.out, by omega, rfl, by omega, by simp, hat, HO.out, HA.out⟩
  case round =>
    obtain ⟨k, tot, f, acc, a', c', rfl, rfl, rfl, HS, hf, hsum, htot, hacc, hk, hown, hB⟩ := hrel
    obtain ⟨f, rfl⟩ : ∃ g, f = g + 1 := ⟨f - 1, by omega⟩
    rw [segsL] at HS
    have ek : IntKind.i64.wrap ((k : Int) + 3) = (k : Int) + 3 := IntWalk.i64_in _ (by omega)
    by_cases h3 : k + 3 ≤ n
    · have hd3 : decide ((k : Int) + 3 ≤ (n : Int)) = true := by rw [decide_eq_true_eq]; omega
      have HNum := Lib.hid (l01Number_any a n c xs k 3 _ (H0.out.to hB) hb (by omega)  (by omega) (by omega) (by omega) (by omega))
      rw [Int.toNat_natCast, show (3 : Int).toNat = 3 from rfl] at HNum
      obtain ⟨N, hN⟩ : ∃ N, num (bpart xs k 3) = N := ⟨_, rfl⟩
      rw [hN] at HNum HS
      by_cases h0 : N = 0
      · have hr := Lib.hid (HS.out.trans (if_neg (fun hh => hh.2 h0)))
        have hn0 : (N != 0) = false := by simp [h0]
        go_wp2_with fail
        refine HNum.out.mono ?_
        rintro e w1 ⟨rfl, rfl⟩
        go_wp2_with fail
        go_ret2
        obtain rfl := hr.out
        exact ⟨_, _, _, rfl, rfl, hown, hB⟩
      · have hn0 : (N != 0) = true := by simp [h0]
        have HS := Lib.hid (HS.out.trans (if_pos ⟨by omega, h0⟩))
        have HRd := Lib.hid (l09Read_any a n c k xs _ (H0.out.to hB) hb (by omega) (by omega))
        obtain ⟨r, hr⟩ : ∃ r, rSeg xs k = r := ⟨_, rfl⟩
        rw [hr] at HRd HS
        rcases r with _ | ⟨m, t, nx⟩
        all_goals simp only [segRes] at HRd
        · have HS : Hid (R = ([], 6)) := HS
          go_wp2_with fail
          refine HNum.out.mono ?_
          rintro e w1 ⟨rfl, rfl⟩
          go_wp2_with fail
          refine HRd.out.mono ?_
          rintro e w1 ⟨rfl, hb1⟩
          go_wp2_with fail
          go_ret2
          obtain rfl := HS.out
          exact ⟨_, _, _, rfl, rfl, OwV.nil _ _ _ _, bt hB (bt hb1 (Below.alloc (Below.refl _ w1) (Nat.le_refl _) _))⟩
        · obtain ⟨b1, b2, b3, b4, b5⟩ := rSeg_bd hb.out hr
          have HS : Hid (R = if 400 < tot + t.length then ([], 3) else segsL xs f nx (tot + t.length) (acc ++ [⟨m, strOfNums t⟩])) := HS
          have hsz := strOfNums_size t
          obtain ⟨s, hs⟩ : ∃ s, strOfNums t = s := ⟨_, rfl⟩
          rw [hs] at HRd HS hsz
          have et : IntKind.i64.wrap ((tot : Int) + (s.size : Int)) = ((tot + s.size : Nat) : Int) := (IntWalk.i64_in _ (by omega)).trans (by omega)
          rw [← hsz] at HS
          have HSZ := Lib.hid hsz
          have hs255 : s.size ≤ 255 := by omega
          clear hsz
          by_cases hbig : 400 < tot + s.size
          · have hr := Lib.hid (HS.out.trans (if_pos hbig))
            go_wp2_with fail
            refine HNum.out.mono ?_
            rintro e w1 ⟨rfl, rfl⟩
            go_wp2_with fail
            refine HRd.out.mono ?_
            rintro e w1 ⟨rfl, hb1⟩
            go_wp2_with fail
            go_ret2
            obtain rfl := hr.out
            exact ⟨_, _, _, rfl, rfl, OwV.nil _ _ _ _, bt hB (bt hb1 (Below.alloc (Below.refl _ w1) (Nat.le_refl _) _))⟩
          · have hr := Lib.hid (HS.out.trans (if_neg hbig))
            go_wp2_with fail
            refine HNum.out.mono ?_
            rintro e w1 ⟨rfl, rfl⟩
            go_wp2_with fail
            refine HRd.out.mono ?_
            rintro e w1 ⟨rfl, hb1⟩
            have hxs := Lib.hid (show w1.heap.size + 1 = (w1.alloc (.cells #[.int .i64 m, .string s] 24)).heap.size by simp)
            have hs1 := hb1.size
            have hs2 := hB.size
            have hownA := (hown.keep hb1).alloc (.cells #[.int .i64 m, .string s] 24)
            have hBA := bt (bt hB hb1) (Below.alloc (Below.refl _ w1) (Nat.le_refl _) (.cells #[.int .i64 m, .string s] 24))
            have hone : ∀ u ∈ (#[.int .i64 m, .string s] : Array Value).toList, u.oneCell' = true := by
              intro u hu
              simp at hu
              rcases hu with rfl | rfl <;> rfl
            go_wp2_with (at_builtin; refine wpList_pushV _ rfl _ _ 33 rfl w.heap.size 24 _ i0 (.agg #[.int .i64 0, .string ⟨#[]⟩]) 2 24 Try.underlying33 hi hz0 hz1 hz2 rfl (by omega) (by omega) a' acc.length c' (acc.flatMap sgC) #[.int .i64 m, .string s] 1 rfl hownA (by exact congrArg (fun b => Value.slice (some ⟨b, 0, none⟩) 1 1) hxs.out) rfl hone (by omega) (by simp; omega) ?_; intro a5 c5 w5 hown5 hbel5)
            have hB5 := hBA.trans hbel5
            go_roundw
            case rel =>
              have el : (acc ++ [(⟨m, s⟩ : SegV)]).length = acc.length + 1 := by simp
              refine ⟨nx, tot + s.size, f, acc ++ [⟨m, s⟩], a5, c5, rfl, by rw [el], by go_num, hr, by omega, by rw [sumG_snoc, hsum], by omega, by rw [el]; omega, by omega, ?_, hB5⟩
              rw [el, List.flatMap_append]
              exact hown5
            case measure => simp [intOf]; omega
    · have hd3 : decide ((k : Int) + 3 ≤ (n : Int)) = false := by rw [decide_eq_false_iff_not]; omega
      have hr := Lib.hid (HS.out.trans (if_neg (fun hh => h3 (by omega))))
      go_wp2_with fail
      go_ret2
      obtain rfl := hr.out
      exact ⟨_, _, _, rfl, rfl, hown, hB⟩
set_option maxHeartbeats 2000000 in
set_option maxRecDepth 20000 in
theorem readSegments_any (a : Option Addr) (n c at_ : Nat) (xs : List Int) (w : World) (hc : n ≤ c) (hc2 : c ≤ 9223372036854775807) (h : Rd .i64 w a n xs) (hb : Hid (∀ x ∈ xs, x = 0 ∨ x = 1)) (hn : n ≤ 8192) (hat : at_ ≤ n) :
    Calls Try.prog 38 #[.slice a n c, .int .i64 at_] w (SegsR (segsL xs (n + 1) at_ 0 []) w) := by
  obtain ⟨i0, hi, hz0, hz1, hz2⟩ := info_parts info_segment
  have hlen := h.len
  have HO := Lib.hid (OwV.empty 24 2 w.heap.size w (Nat.le_refl _))
  have HA := Lib.hid (Below.alloc (Below.refl w.heap.size w) (Nat.le_refl _) (.cells #[] 24))
  have H0 := Lib.hid h
  clear h
  obtain ⟨R, hR⟩ : ∃ R, segsL xs (n + 1) at_ 0 [] = R := ⟨_, rfl⟩
  rw [hR]
  have HR := Lib.hid hR.symm
  clear hR
  go_enter Try.func38, Try.ntmps38
  go_wp2_with fail
  go_loopw [1, 6, 7] (fun A o tt wr => ∃ (k tot f : Nat) (acc : List SegV) (a' : Option Addr) (c' : Nat), A = .int .i64 k ∧ o = .slice a' acc.length c' ∧ tt = .int .i64 tot ∧ Hid (R = segsL xs f k tot acc) ∧ n + 1 ≤ f + k ∧ sumG acc = tot ∧ tot ≤ 400 ∧ acc.length * 11 ≤ k ∧ k ≤ n ∧ OwV 24 2 w.heap.size wr a' acc.length c' (acc.flatMap sgC) ∧ Below w.heap.size w wr) (fun A _ _ _ => n - (intOf A).toNat)
  case atStart => exact ⟨at_, 0, n + 1, [], _, _, rfl, rfl, rfl, HR.out, by omega, rfl, by omega, by simp, hat, HO.out, HA.out⟩
  case round =>
    obtain ⟨k, tot, f, acc, a', c', rfl, rfl, rfl, HS, hf, hsum, htot, hacc, hk, hown, hB⟩ := hrel
    obtain ⟨f, rfl⟩ : ∃ g, f = g + 1 := ⟨f - 1, by omega⟩
    rw [segsL] at HS
    have ek : IntKind.i64.wrap ((k : Int) + 3) = (k : Int) + 3 := IntWalk.i64_in _ (by omega)
    by_cases h3 : k + 3 ≤ n
    · have hd3 : decide ((k : Int) + 3 ≤ (n : Int)) = true := by rw [decide_eq_true_eq]; omega
      have HNum := Lib.hid (numberAt_any a n c xs k 3 _ (H0.out.to hB) hb (by omega) hc hc2  (by omega) (by omega) (by omega) (by omega))
      rw [Int.toNat_natCast, show (3 : Int).toNat = 3 from rfl] at HNum
      obtain ⟨N, hN⟩ : ∃ N, num (bpart xs k 3) = N := ⟨_, rfl⟩
      rw [hN] at HNum HS
      by_cases h0 : N = 0
      · have hr := Lib.hid (HS.out.trans (if_neg (fun hh => hh.2 h0)))
        have hn0 : (N != 0) = false := by simp [h0]
        go_wp2_with fail
        refine HNum.out.mono ?_
        rintro e w1 ⟨rfl, rfl⟩
        go_wp2_with fail
        go_ret2
        obtain rfl := hr.out
        exact ⟨_, _, _, rfl, rfl, hown, hB⟩
      · have hn0 : (N != 0) = true := by simp [h0]
        have HS := Lib.hid (HS.out.trans (if_pos ⟨by omega, h0⟩))
        have HRd := Lib.hid (readSegment_any a n c k xs _ hc hc2 (H0.out.to hB) hb (by omega) (by omega))
        obtain ⟨r, hr⟩ : ∃ r, rSeg xs k = r := ⟨_, rfl⟩
        rw [hr] at HRd HS
        rcases r with _ | ⟨m, t, nx⟩
        all_goals simp only [segRes] at HRd
        · have HS : Hid (R = ([], 6)) := HS
          go_wp2_with fail
          refine HNum.out.mono ?_
          rintro e w1 ⟨rfl, rfl⟩
          go_wp2_with fail
          refine HRd.out.mono ?_
          rintro e w1 ⟨rfl, hb1⟩
          go_wp2_with fail
          go_ret2
          obtain rfl := HS.out
          exact ⟨_, _, _, rfl, rfl, OwV.nil _ _ _ _, bt hB (bt hb1 (Below.alloc (Below.refl _ w1) (Nat.le_refl _) _))⟩
        · obtain ⟨b1, b2, b3, b4, b5⟩ := rSeg_bd hb.out hr
          have HS : Hid (R = if 400 < tot + t.length then ([], 3) else segsL xs f nx (tot + t.length) (acc ++ [⟨m, strOfNums t⟩])) := HS
          have hsz := strOfNums_size t
          obtain ⟨s, hs⟩ : ∃ s, strOfNums t = s := ⟨_, rfl⟩
          rw [hs] at HRd HS hsz
          have et : IntKind.i64.wrap ((tot : Int) + (s.size : Int)) = ((tot + s.size : Nat) : Int) := (IntWalk.i64_in _ (by omega)).trans (by omega)
          rw [← hsz] at HS
          have HSZ := Lib.hid hsz
          have hs255 : s.size ≤ 255 := by omega
          clear hsz
          by_cases hbig : 400 < tot + s.size
          · have hr := Lib.hid (HS.out.trans (if_pos hbig))
            go_wp2_with fail
            refine HNum.out.mono ?_
            rintro e w1 ⟨rfl, rfl⟩
            go_wp2_with fail
            refine HRd.out.mono ?_
            rintro e w1 ⟨rfl, hb1⟩
            go_wp2_with fail
            go_ret2
            obtain rfl := hr.out
            exact ⟨_, _, _, rfl, rfl, OwV.nil _ _ _ _, bt hB (bt hb1 (Below.alloc (Below.refl _ w1) (Nat.le_refl _) _))⟩
          · have hr := Lib.hid (HS.out.trans (if_neg hbig))
            go_wp2_with fail
            refine HNum.out.mono ?_
            rintro e w1 ⟨rfl, rfl⟩
            go_wp2_with fail
            refine HRd.out.mono ?_
            rintro e w1 ⟨rfl, hb1⟩
            have hxs := Lib.hid (show w1.heap.size + 1 = (w1.alloc (.cells #[.int .i64 m, .string s] 24)).heap.size by simp)
            have hs1 := hb1.size
            have hs2 := hB.size
            have hownA := (hown.keep hb1).alloc (.cells #[.int .i64 m, .string s] 24)
            have hBA := bt (bt hB hb1) (Below.alloc (Below.refl _ w1) (Nat.le_refl _) (.cells #[.int .i64 m, .string s] 24))
            have hone : ∀ u ∈ (#[.int .i64 m, .string s] : Array Value).toList, u.oneCell' = true := by
              intro u hu
              simp at hu
              rcases hu with rfl | rfl <;> rfl
            go_wp2_with (at_builtin; refine wpList_pushV _ rfl _ _ 33 rfl w.heap.size 24 _ i0 (.agg #[.int .i64 0, .string ⟨#[]⟩]) 2 24 Try.underlying33 hi hz0 hz1 hz2 rfl (by omega) (by omega) a' acc.length c' (acc.flatMap sgC) #[.int .i64 m, .string s] 1 rfl hownA (by exact congrArg (fun b => Value.slice (some ⟨b, 0, none⟩) 1 1) hxs.out) rfl hone (by omega) (by simp; omega) ?_; intro a5 c5 w5 hown5 hbel5)
            have hB5 := hBA.trans hbel5
            go_roundw
            case rel =>
              have el : (acc ++ [(⟨m, s⟩ : SegV)]).length = acc.length + 1 := by simp
              refine ⟨nx, tot + s.size, f, acc ++ [⟨m, s⟩], a5, c5, rfl, by rw [el], by go_num, hr, by omega, by rw [sumG_snoc, hsum], by omega, by rw [el]; omega, by omega, ?_, hB5⟩
              rw [el, List.flatMap_append]
              exact hown5
            case measure => simp [intOf]; omega
    · have hd3 : decide ((k : Int) + 3 ≤ (n : Int)) = false := by rw [decide_eq_false_iff_not]; omega
      have hr := Lib.hid (HS.out.trans (if_neg (fun hh => h3 (by omega))))
      go_wp2_with fail
      go_ret2
      obtain rfl := hr.out
      exact ⟨_, _, _, rfl, rfl, hown, hB⟩
end Go.Proofs.Ytnajjofaijpciaa
