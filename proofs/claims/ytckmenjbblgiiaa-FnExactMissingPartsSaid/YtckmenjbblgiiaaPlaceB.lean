/-
  Contracts: lists of places are compared, marked and read back; the places of the format, by the reference and by the program.
  Conditions: none for the contracts of the places of the format; equal lists and small marks for the helpers.
-/
import Derived.Test.YtckmenjbblgiiaaPlaceA
import Derived.Test.YtckmenjbblgiiaaLib
import Derived.Test.YtckmenjbblgiiaaGridD
set_option linter.unusedVariables false
namespace Go.Proofs.Ytckmenjbblgiiaa
open Go.RowKit Go.G8
theorem at2 {w : World} {a : Option Addr} {n k : Nat} {xs : List Int} (h : RdV 2 w a n (ints .i64 xs)) (hk : k < n) : ∃ b o x y, a = some ⟨b, o, none⟩ ∧ b < w.heap.size ∧ w.cell? ⟨b, o + k * 2, none⟩ = some (.int .i64 x) ∧ w.cell? ⟨b, o + k * 2 + 1, none⟩ = some (.int .i64 y) ∧ Hid (xs[k * 2]? = some x) ∧ Hid (xs[k * 2 + 1]? = some y) := by
  have hl : xs.length = n * 2 := by have := h.len; rwa [ints_length] at this
  have h1 : xs[k * 2]? = some xs[k * 2] := List.getElem?_eq_getElem (by omega)
  have h2 : xs[k * 2 + 1]? = some xs[k * 2 + 1] := List.getElem?_eq_getElem (by omega)
  obtain ⟨b, o, rfl, hb⟩ := h.form (by omega) (by omega)
  exact ⟨b, o, _, _, rfl, hb, h.cell (by omega) (ints_get h1), h.cell (by omega) (ints_get h2), h1, h2⟩
def flatI (ps : List (Int × Int)) : List Int := ps.flatMap (fun p => [p.1, p.2])
theorem flatP_ints (ps : List (Int × Int)) : flatP ps = ints .i64 (flatI ps) := by
  induction ps with
  | nil => rfl
  | cons p ps ih =>
    show [Value.int .i64 p.1, .int .i64 p.2] ++ flatP ps = ints .i64 ([p.1, p.2] ++ flatI ps)
    rw [ih, ints_append]
    rfl
theorem flatI_len (ps : List (Int × Int)) : (flatI ps).length = ps.length * 2 := by
  induction ps with
  | nil => rfl
  | cons p ps ih =>
    show ([p.1, p.2] ++ flatI ps).length = _
    rw [List.length_append, ih, List.length_cons]
    simp
    omega
theorem eqPlace_same (p q : Int) (w : World) : Calls Try.prog 66 #[.agg #[.int .i64 p, .int .i64 q], .agg #[.int .i64 p, .int .i64 q]] w (Ret (.bool true) w) := by
  obtain ⟨hw0, hlt0, hA, hB⟩ := two_slots w #[.int .i64 p, .int .i64 q] #[.int .i64 p, .int .i64 q] 95 95
  have e1 : (p != p) = false := by simp
  have e2 : (q != q) = false := by simp
  go_enter Try.func66, Try.ntmps66
  go_wp2
  go_ret
  exact ⟨rfl, hw0⟩
set_option maxHeartbeats 1000000 in
theorem eqPlaceS_same (a b : Option Addr) (n m c d : Nat) (xs : List Int) (w : World) (ha : RdV 2 w a n (ints .i64 xs)) (hb : RdV 2 w b m (ints .i64 xs)) (hn : n ≤ 1000000000) :
    Calls Try.prog 20 #[.slice a n c, .slice b m d] w (Ret (.bool true) w) := by
  obtain rfl : n = m := by have e1 := ha.len; have e2 := hb.len; omega
  have hne : ((n : Int) != (n : Int)) = false := by simp
  go_enter Try.func20, Try.ntmps20
  go_wp2
  go_loopw [5] (fun i wr => ∃ k : Nat, k ≤ n ∧ i = .int .i64 k ∧ Below w.heap.size w wr) (fun i _ => n - (intOf i).toNat)
  case atStart => exact ⟨0, Nat.zero_le _, rfl, Below.refl _ _⟩
  case round =>
    obtain ⟨k, hk, rfl, hB⟩ := hrel
    by_cases hlt : k < n
    · obtain ⟨b1, o1, x, y, rfl, hbl1, hc1, hd1, hx, hy⟩ := at2 (ha.to hB) hlt
      obtain ⟨b2, o2, x2, y2, rfl, hbl2, hc2, hd2, hx2, hy2⟩ := at2 (hb.to hB) hlt
      obtain rfl : x = x2 := by have h1 := hx.out; rw [hx2.out] at h1; exact (Option.some.inj h1).symm
      obtain rfl : y = y2 := by have h1 := hy.out; rw [hy2.out] at h1; exact (Option.some.inj h1).symm
      have hl1 : (0 : Int) ≤ (k : Int) := by omega
      have hl2 : (k : Int) < (n : Int) := by omega
      have hB0 := Lib.hid hB
      have HC := Lib.hid (show _ ∧ _ ∧ _ ∧ _ from ⟨hc1, hd1, hc2, hd2⟩)
      have HK := Lib.hid (fun W (hW : Below wr.heap.size wr W) => (show W.cell? ⟨b1, o1 + k * 2, none⟩ = some (.int .i64 x) ∧ W.cell? ⟨b1, o1 + k * 2 + 1, none⟩ = some (.int .i64 y) ∧ W.cell? ⟨b2, o2 + k * 2, none⟩ = some (.int .i64 x) ∧ W.cell? ⟨b2, o2 + k * 2 + 1, none⟩ = some (.int .i64 y) from ⟨((bcell hW).1 b1 _ hbl1).trans hc1, ((bcell hW).1 b1 _ hbl1).trans hd1, ((bcell hW).1 b2 _ hbl2).trans hc2, ((bcell hW).1 b2 _ hbl2).trans hd2⟩))
      clear hB
      go_wp2_with fail
      go_region_held3 (fun W => W.cell? ⟨b1, o1 + k * 2, none⟩ = some (.int .i64 x) ∧ W.cell? ⟨b1, o1 + k * 2 + 1, none⟩ = some (.int .i64 y) ∧ W.cell? ⟨b2, o2 + k * 2, none⟩ = some (.int .i64 x) ∧ W.cell? ⟨b2, o2 + k * 2 + 1, none⟩ = some (.int .i64 y)) (first | exact HC.out | exact HK.out _ hb1 | exact HK.out _ hb1.drew | go_keep) (first | (go_at_call 66; refine (eqPlace_same x y _).mono ?_; rintro e w1 ⟨rfl, hb1⟩; replace hb1 := bt (w := wr) (by first | exact Below.refl _ _ | exact (Below.refl _ _).drew | exact ((Below.refl _ _).drew).drew) hb1))
      all_goals go_wp2_with fail
      all_goals go_roundw
      case rel => exact ⟨k + 1, by omega, by go_num, bt hB0.out (by first | exact hb1 | exact hb1.drew)⟩
      case measure => simp [intOf]; omega
    · go_wp2
      go_ret
      exact ⟨rfl, hB⟩
set_option maxHeartbeats 1000000 in
theorem markPlaceS_any {E : TypeId} (B : Nat) (a : Option Addr) (n c : Nat) (xs : List Int) (k : Int) (w : World) (ho : OwV E 2 B w a n c (ints .i64 xs)) (hn : n ≤ 1000000) (h0 : 0 ≤ k) (h1 : k ≤ 1000000000000) :
    Calls Try.prog 21 #[.slice a n c, .int .i64 k] w fun e w' => e = .returned (.int .i64 (k + ((n * 2 : Nat) : Int))) ∧ OwV E 2 B w' a n c (ints .i64 (seqI k (n * 2))) ∧ w.grownBy w' (blk a) := by
  have HL := Lib.hid (show xs.length = n * 2 by have := ho.len; rwa [ints_length] at this)
  go_enter Try.func21, Try.ntmps21
  go_wp2
  go_loopw [1, 5] (fun v i wr => ∃ j : Nat, j ≤ n ∧ i = .int .i64 j ∧ v = .int .i64 (k + ((j * 2 : Nat) : Int)) ∧ OwV E 2 B wr a n c (ints .i64 (seqI k (j * 2) ++ xs.drop (j * 2))) ∧ w.grownBy wr (blk a)) (fun _ i _ => n - (intOf i).toNat)
  case atStart => exact ⟨0, Nat.zero_le _, rfl, by simp, by simpa [seqI] using ho, World.grownBy.refl _ _⟩
  case round =>
    obtain ⟨j, hj, rfl, rfl, hown, hg⟩ := hrel
    by_cases hlt : j < n
    · obtain ⟨g, rfl, -, hgs⟩ := hown.form (by omega)
      obtain ⟨J, hJ⟩ : ∃ J, j * 2 = J := ⟨_, rfl⟩
      have hl : J + 1 < xs.length := by rw [HL.out]; omega
      rw [hJ] at hown
      have hc1 := hown.cellAt (j := J) (v := .int .i64 xs[J]) (ints_get (by rw [List.getElem?_append_right (by simp [seqI_length]), seqI_length]; simp))
      have hc2 := hown.cellAt (j := J + 1) (v := .int .i64 xs[J + 1]) (ints_get (by rw [List.getElem?_append_right (by simp [seqI_length]), seqI_length]; simp [List.getElem?_drop]))
      have hf1 := hown.free J
      have hf2 := hown.free (J + 1)
      have hs := (hown.set_ J (.int .i64 (k + J))).set_ (J + 1) (.int .i64 (k + ((J + 1 : Nat) : Int)))
      rw [ints_set, ints_set, mark_set xs k J (by omega), mark_set xs k (J + 1) hl] at hs
      generalize xs[J] = u1 at hc1
      generalize xs[J + 1] = u2 at hc2
      rw [show k + ((J + 1 : Nat) : Int) = k + (J : Int) + 1 by omega] at hs
      have hJ2 : (j + 1) * 2 = J + 1 + 1 := by omega
      have hg2 : w.grownBy ((wr.setCell ⟨g, J, none⟩ (.int .i64 (k + (J : Int)))).setCell ⟨g, J + 1, none⟩ (.int .i64 (k + (J : Int) + 1))) (blk (some ⟨g, 0, none⟩)) :=
        ⟨hg.os, hg.tape, hg.output, by simpa using hg.size, fun q hq hne => (Below.heap_setCell _ _ _ _ (fun e => hne (by rw [e]; rfl))).trans ((Below.heap_setCell _ _ _ _ (fun e => hne (by rw [e]; rfl))).trans (hg.block q hq hne))⟩
      have hJn : (J : Int) ≤ 2000000 := by omega
      rw [hJ]
      clear hg ho
      go_wp2_with fail
      go_roundw
      case rel => exact ⟨j + 1, by omega, by go_num, by rw [hJ2]; go_num, by rw [hJ2]; exact hs, hg2⟩
      case measure => simp [intOf]; omega
    · obtain rfl : j = n := by omega
      go_wp2
      go_ret
      exact ⟨rfl, by rwa [List.drop_eq_nil_of_le (by rw [HL.out]; exact Nat.le_refl _), List.append_nil] at hown, hg⟩
theorem heldPlaceS_seq (a : Option Addr) (n c : Nat) (k : Int) (w : World) (h : RdV 2 w a n (ints .i64 (seqI k (n * 2)))) (hn : n ≤ 1000000) (h0 : 0 ≤ k) (h1 : k ≤ 1000000000000) :
    Calls Try.prog 22 #[.slice a n c, .int .i64 k] w (RetS (.int .i64 (k + ((n * 2 : Nat) : Int))) w) := by
  go_enter Try.func22, Try.ntmps22
  go_wp2
  go_loop [1, 5] (fun v i => ∃ j : Nat, j ≤ n ∧ i = .int .i64 j ∧ v = .int .i64 (k + ((j * 2 : Nat) : Int))) (fun _ i => n - (intOf i).toNat)
  case atStart => exact ⟨0, Nat.zero_le _, rfl, by simp⟩
  case round =>
    obtain ⟨j, hj, rfl, rfl⟩ := hrel
    by_cases hlt : j < n
    · obtain ⟨b, o, x, y, rfl, -, hc, hd, hx, hy⟩ := at2 h hlt
      obtain ⟨J, hJ⟩ : ∃ J, j * 2 = J := ⟨_, rfl⟩
      rw [hJ] at hc hd hx hy ⊢
      obtain rfl : x = k + J := by have h1 := hx.out; rw [seqI_get k (n * 2) J (by omega)] at h1; exact (Option.some.inj h1).symm
      obtain rfl : y = k + (J : Int) + 1 := by have h1 := hy.out; rw [seqI_get k (n * 2) (J + 1) (by omega)] at h1; have := (Option.some.inj h1).symm; omega
      have hxx : (k + (J : Int) != k + (J : Int)) = false := by simp
      have hyy : (k + (J : Int) + 1 != k + (J : Int) + 1) = false := by simp
      have hJ2 : (j + 1) * 2 = J + 1 + 1 := by omega
      have hJn : (J : Int) ≤ 2000000 := by omega
      go_wp2
      go_round
      case rel => exact ⟨j + 1, by omega, by go_num, by rw [hJ2]; go_num⟩
      case measure => simp [intOf]; omega
    · obtain rfl : j = n := by omega
      go_wp2
      go_ret
      exact ⟨rfl, rfl⟩
/-! the sizes -/
def sizeOK (n : Int) : Prop := (17 ≤ n ∧ n ≤ 41) ∧ n % 4 = 1
instance (n : Int) : Decidable (sizeOK n) := by unfold sizeOK; exact inferInstance
theorem l14Size_any (n : Int) (w : World) : Calls Try.prog 62 #[.int .i64 n] w (RetS (.bool (decide (sizeOK n))) w) := by
  by_cases hn : 17 ≤ n ∧ n ≤ 41
  · by_cases h4 : n % 4 = 1
    · have e4 : (n % 4 == 1) = true := by simp [h4]
      rw [decide_eq_true (show sizeOK n from ⟨hn, h4⟩)]
      clear h4
      go_enter Try.func62, Try.ntmps62
      go_wp2_with (go_at_call 59; refine (l01In_yes _ _ _ _ (by omega)).mono ?_; rintro e w' ⟨rfl, rfl⟩)
      go_ret
      exact ⟨rfl, rfl⟩
    · have e4 : (n % 4 == 1) = false := by simp [h4]
      rw [decide_eq_false (show ¬ sizeOK n from fun h => h4 h.2)]
      clear h4
      go_enter Try.func62, Try.ntmps62
      go_wp2_with (go_at_call 59; refine (l01In_yes _ _ _ _ (by omega)).mono ?_; rintro e w' ⟨rfl, rfl⟩)
      go_ret
      exact ⟨rfl, rfl⟩
  · rw [decide_eq_false (show ¬ sizeOK n from fun h => hn h.1)]
    go_enter Try.func62, Try.ntmps62
    go_wp2_with (go_at_call 59; refine (l01In_no _ _ _ _ hn).mono ?_; rintro e w' ⟨rfl, rfl⟩)
    go_ret
    exact ⟨rfl, rfl⟩
theorem isMatrixSize_any (n : Int) (w : World) : Calls Try.prog 64 #[.int .i64 n] w (RetS (.bool (decide (sizeOK n))) w) := by
  by_cases hn : 17 ≤ n ∧ n ≤ 41
  · by_cases h4 : n % 4 = 1
    · have e4 : (n % 4 == 1) = true := by simp [h4]
      rw [decide_eq_true (show sizeOK n from ⟨hn, h4⟩)]
      clear h4
      go_enter Try.func64, Try.ntmps64
      go_wp2_with (go_at_call 57; refine (inRange_yes _ _ _ _ (by omega)).mono ?_; rintro e w' ⟨rfl, rfl⟩)
      go_ret
      exact ⟨rfl, rfl⟩
    · have e4 : (n % 4 == 1) = false := by simp [h4]
      rw [decide_eq_false (show ¬ sizeOK n from fun h => h4 h.2)]
      clear h4
      go_enter Try.func64, Try.ntmps64
      go_wp2_with (go_at_call 57; refine (inRange_yes _ _ _ _ (by omega)).mono ?_; rintro e w' ⟨rfl, rfl⟩)
      go_ret
      exact ⟨rfl, rfl⟩
  · rw [decide_eq_false (show ¬ sizeOK n from fun h => hn h.1)]
    go_enter Try.func64, Try.ntmps64
    go_wp2_with (go_at_call 57; refine (inRange_no _ _ _ _ hn).mono ?_; rintro e w' ⟨rfl, rfl⟩)
    go_ret
    exact ⟨rfl, rfl⟩
def rPlaces (n : Int) : List Int × List Int × Int := if sizeOK n then (flatI firstP, flatI (secondP n), 0) else ([], [], 2)
def RetPl (n : Int) (w : World) (e : Ending) (w' : World) : Prop :=
  ∃ (a : Option Addr) (m c : Nat) (b : Option Addr) (k d : Nat), e = .returned (.tuple #[.slice a m c, .slice b k d, .int .i64 (rPlaces n).2.2]) ∧ m ≤ 15 ∧ k ≤ 15 ∧ OwV 95 2 w.heap.size w' a m c (ints .i64 (rPlaces n).1) ∧ OwV 95 2 w.heap.size w' b k d (ints .i64 (rPlaces n).2.1) ∧ Apart a b ∧ Below w.heap.size w w'
theorem specFormatPlaces_any (n : Int) (w : World) : Calls Try.prog 18 #[.int .i64 n] w (RetPl n w) := by
  by_cases hs : sizeOK n
  · have HS := Lib.hid (fun w => l14Size_any n w)
    rw [decide_eq_true hs] at HS
    have hr := Lib.hid (show rPlaces n = (flatI firstP, flatI (secondP n), 0) from if_pos hs)
    have HF := Lib.hid (fun w => l14Format_any n w hs.1)
    clear hs
    go_enter Try.func18, Try.ntmps18
    go_wp2_with fail
    refine (HS.out _).mono ?_
    rintro e w' ⟨rfl, rfl⟩
    go_wp2_with fail
    refine (HF.out _).mono ?_
    rintro e w1 ⟨a, c, b, d, rfl, h1, h2, h3, h4⟩
    go_wp2_with fail
    refine bodyPost_ret (v := .tuple #[.slice a 15 c, .slice b 15 d, .int .i64 0]) (by simp [results, Try.results18, go_sem]) rfl ⟨a, 15, c, b, 15, d, by rw [hr.out], by omega, by omega, ?_, ?_, h3, h4⟩
    · rw [hr.out, ← flatP_ints]; exact h1
    · rw [hr.out, ← flatP_ints]; exact h2
  · have HS := Lib.hid (fun w => l14Size_any n w)
    rw [decide_eq_false hs] at HS
    have hr := Lib.hid (show rPlaces n = ([], [], 2) from if_neg hs)
    clear hs
    go_enter Try.func18, Try.ntmps18
    go_wp2_with fail
    refine (HS.out _).mono ?_
    rintro e w' ⟨rfl, rfl⟩
    go_wp2_with fail
    refine bodyPost_ret (v := .tuple #[.slice none 0 0, .slice none 0 0, .int .i64 2]) (by simp [results, Try.results18, go_sem]) rfl ⟨none, 0, 0, none, 0, 0, by rw [hr.out], by omega, by omega, ?_, ?_, fun g h => by simp [blk] at h, Below.refl _ _⟩
    · rw [hr.out]; exact OwV.nil _ _ _ _
    · rw [hr.out]; exact OwV.nil _ _ _ _
theorem implFormatPlaces_any (n : Int) (w : World) : Calls Try.prog 19 #[.int .i64 n] w (RetPl n w) := by
  by_cases hs : sizeOK n
  · have HS := Lib.hid (fun w => isMatrixSize_any n w)
    rw [decide_eq_true hs] at HS
    have hr := Lib.hid (show rPlaces n = (flatI firstP, flatI (secondP n), 0) from if_pos hs)
    have HF := Lib.hid (fun w => formats_any n w hs.1)
    clear hs
    go_enter Try.func19, Try.ntmps19
    go_wp2_with fail
    refine (HS.out _).mono ?_
    rintro e w' ⟨rfl, rfl⟩
    go_wp2_with fail
    refine (HF.out _).mono ?_
    rintro e w1 ⟨a, c, b, d, rfl, h1, h2, h3, h4⟩
    go_wp2_with fail
    refine bodyPost_ret (v := .tuple #[.slice a 15 c, .slice b 15 d, .int .i64 0]) (by simp [results, Try.results19, go_sem]) rfl ⟨a, 15, c, b, 15, d, by rw [hr.out], by omega, by omega, ?_, ?_, h3, h4⟩
    · rw [hr.out, ← flatP_ints]; exact h1
    · rw [hr.out, ← flatP_ints]; exact h2
  · have HS := Lib.hid (fun w => isMatrixSize_any n w)
    rw [decide_eq_false hs] at HS
    have hr := Lib.hid (show rPlaces n = ([], [], 2) from if_neg hs)
    clear hs
    go_enter Try.func19, Try.ntmps19
    go_wp2_with fail
    refine (HS.out _).mono ?_
    rintro e w' ⟨rfl, rfl⟩
    go_wp2_with fail
    refine bodyPost_ret (v := .tuple #[.slice none 0 0, .slice none 0 0, .int .i64 2]) (by simp [results, Try.results19, go_sem]) rfl ⟨none, 0, 0, none, 0, 0, by rw [hr.out], by omega, by omega, ?_, ?_, fun g h => by simp [blk] at h, Below.refl _ _⟩
    · rw [hr.out]; exact OwV.nil _ _ _ _
    · rw [hr.out]; exact OwV.nil _ _ _ _
end Go.Proofs.Ytckmenjbblgiiaa
