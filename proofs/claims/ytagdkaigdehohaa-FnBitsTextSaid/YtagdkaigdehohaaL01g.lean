/-
  Contracts of chapter 1 of the program and of the reference: BitsText, StringOfBits.
  Conditions: named at each contract; they are bounds on lengths.
-/
import Derived.Test.YtagdkaigdehohaaL01b
set_option linter.unusedVariables false
namespace Go.Proofs.Ytagdkaigdehohaa
open Go.RowKit Go.G8
theorem info_uint8 : (Try.prog.info? 5).map (fun i => (i.zero, i.size, i.bytes)) = some (some (.int .u8 0), 1, 1) := by kernel_rfl

set_option maxRecDepth 20000 in
set_option maxHeartbeats 400000 in
theorem specBitsText_any (a : Option Addr) (n c : Nat) (xs : List Int) (w : World) (h : Rd .i64 w a n xs) (hn : n ≤ 1000000000) :
    Calls Try.prog 56 #[.slice a n c] w (Ret (.string (rBitsText xs)) w) := by
  obtain ⟨i0, hi, hz0, hz1, hz2⟩ := info_parts info_uint8
  have HL := Lib.hid h.len
  have hO := Ow.empty .u8 5 w.heap.size w (Nat.le_refl _)
  have hBb := (Below.refl w.heap.size w).alloc (Nat.le_refl _) (.cells #[] 5)
  cases hb : isBits xs with
  | false =>
    have hr := Lib.hid (show rBitsText xs = strOfNums [] by unfold rBitsText; rw [hb]; rfl)
    have hpos : (0 : Int) < (n : Int) := by
      rcases Nat.eq_zero_or_pos n with h0 | h0
      · have : xs = [] := List.eq_nil_of_length_eq_zero (by rw [HL.out]; exact h0)
        subst this; simp [isBits] at hb
      · omega
    have hcv := conv_str (P := Try.prog) hO 52 9 5 Try.underlying52 Try.underlying5 Try.underlying9
    go_enter Try.func56, Try.ntmps56
    go_wp2
    refine wp_loop_rounds 1 ?_
    rw [rounds_succ]
    go_wp2_with (go_at_call 85; refine (specIsBits_any _ _ _ _ _ (h.to hBb) (by omega)).mono ?_; rintro e w' ⟨rfl, rfl⟩)
    go_ret
    exact ⟨ret_str hr.out.symm, hBb⟩
  | true =>
    have hbits := Lib.hid ((isBits_iff xs).1 hb)
    go_enter Try.func56, Try.ntmps56
    go_wp2
    go_loopw [3, 4] (fun l i wr => ∃ (a' : Option Addr) (n' c' k : Nat), k ≤ n ∧ i = .int .i64 k ∧ l = .slice a' n' c' ∧ Ow .u8 5 w.heap.size wr a' n' c' ((xs.take k).map (48 + ·)) ∧ n' ≤ k ∧ Below w.heap.size w wr) (fun _ i _ => n - (intOf i).toNat)
    case atStart => exact ⟨_, _, _, 0, Nat.zero_le _, rfl, rfl, hO, Nat.le_refl _, hBb⟩
    case round =>
      clear hO hBb
      obtain ⟨a', n', c', k, hk, rfl, rfl, hown, hn', hbel⟩ := hrel
      have hBr := hbel.size
      by_cases hlt : k < n
      · obtain ⟨b, o, x, rfl, -, hc, hx, -, -⟩ := (h.to hbel).at_ hlt
        have hx01 := hbits.out.2 x (List.mem_of_getElem? hx.out)
        have hT := Lib.hid (take_snoc hx.out)
        have hx1 : 0 ≤ x ∧ x ≤ 1 := by omega
        clear hx01
        go_wp2_with (first | (go_at_call 85; refine (specIsBits_any _ _ _ _ _ (h.to hbel) (by omega)).mono ?_; rintro e w' ⟨rfl, rfl⟩) | (at_builtin; refine wpList_push .u8 _ rfl _ _ 52 rfl w.heap.size 5 _ i0 1 Try.underlying52 hi hz0 hz1 hz2 (by omega) a' n' c' _ _ rfl hown rfl (by omega) (by omega) ?_; intro a2 n2 c2 w2 hown2 hbel2))
        go_roundw
        case rel => exact ⟨a2, n2, c2, k + 1, by omega, by go_num, rfl, by rw [hT.out, List.map_append]; exact hown2, by have e1 := hown2.len; have e2 := hown.len; simp at e1 e2; omega, hbel.trans hbel2⟩
        case measure => simp [intOf]; omega
      · obtain rfl : k = n := by omega
        rw [List.take_of_length_le (by rw [HL.out]; exact Nat.le_refl _)] at hown
        have hr := Lib.hid (show rBitsText xs = strOfNums (xs.map (48 + ·)) by unfold rBitsText; rw [hb]; rfl)
        have hcv := conv_str (P := Try.prog) hown 52 9 5 Try.underlying52 Try.underlying5 Try.underlying9
        go_wp2
        go_ret
        exact ⟨ret_str hr.out.symm, hbel⟩
set_option maxRecDepth 20000 in
set_option maxHeartbeats 400000 in
theorem implBitsText_any (a : Option Addr) (n c : Nat) (xs : List Int) (w : World) (h : Rd .i64 w a n xs) (hn : n ≤ 1000000000) :
    Calls Try.prog 55 #[.slice a n c] w (Ret (.string (rBitsText xs)) w) := by
  obtain ⟨i0, hi, hz0, hz1, hz2⟩ := info_parts info_uint8
  have HL := Lib.hid h.len
  cases hb : isBits xs with
  | false =>
    have hr := Lib.hid (show rBitsText xs = ByteArray.empty by unfold rBitsText; rw [hb]; rfl)
    go_enter Try.func55, Try.ntmps55
    go_wp2_with (go_at_call 58; refine (implIsBits_any _ _ _ _ _ h (by omega)).mono ?_; rintro e w' ⟨rfl, rfl⟩)
    go_ret
    exact ⟨ret_str hr.out.symm, Below.refl _ _⟩
  | true =>
    have hbits := Lib.hid ((isBits_iff xs).1 hb)
    go_enter Try.func55, Try.ntmps55
    go_wp2_with (first | (go_at_call 58; refine (implIsBits_any _ _ _ _ _ h (by omega)).mono ?_; rintro e w' ⟨rfl, rfl⟩) | (at_make; refine wpList_make_full _ rfl _ _ 52 rfl w.heap.size 5 i0 (.int .u8 0) 1 Try.underlying52 hi hz0 hz1 .i64 .i64 _ _ n rfl rfl rfl rfl (by rw [hz2]; omega) (by unfold maxLen; omega) (Nat.le_refl _) ?_; intro w1 hown1 hg1))
    clear hz0 hz1 hz2
    rw [made_ints] at hown1
    have HM := Lib.hid (show (xs.map (48 + ·)).length = n by simp [HL.out])
    go_loopw [14] (fun i wr => ∃ k : Nat, k ≤ n ∧ i = .int .i64 k ∧ Ow .u8 5 w.heap.size wr (some ⟨w.heap.size, 0, none⟩) n n ((xs.map (48 + ·)).take k ++ List.replicate (n - k) 0) ∧ Below w.heap.size w wr) (fun i _ => n - (intOf i).toNat)
    case atStart => exact ⟨0, Nat.zero_le _, rfl, by simpa [Ow] using hown1, (Below.refl _ _).grown hg1 (Nat.le_refl _) (by simp)⟩
    case round =>
      clear hown1 hg1
      obtain ⟨k, hk, rfl, hown, hbel⟩ := hrel
      by_cases hlt : k < n
      · obtain ⟨b, o, x, rfl, -, hc, hx, -, -⟩ := (h.to hbel).at_ hlt
        have hx01 := hbits.out.2 x (List.mem_of_getElem? hx.out)
        have hold := hown.cell (fill_get hlt HM.out)
        have hfr := hown.free k
        have hxm := Lib.hid (show (xs.map (48 + ·))[k]? = some (48 + x) by rw [List.getElem?_map, hx.out]; rfl)
        have hx1 : 0 ≤ x ∧ x ≤ 1 := by omega
        clear hx01
        go_wp2
        go_roundw
        case rel => exact ⟨k + 1, by omega, by go_num, by rw [← fill_set hxm.out HM.out]; exact hown.set_ k _, hbel.setCell (Nat.le_refl _) _⟩
        case measure => simp [intOf]; omega
      · obtain rfl : k = n := by omega
        rw [fill_all HM.out] at hown
        have hr := Lib.hid (show rBitsText xs = strOfNums (xs.map (48 + ·)) by unfold rBitsText; rw [hb]; rfl)
        have hcv := conv_str (P := Try.prog) hown 52 9 5 Try.underlying52 Try.underlying5 Try.underlying9
        go_wp2
        go_ret
        exact ⟨ret_str hr.out.symm, hbel⟩
set_option maxRecDepth 20000 in
set_option maxHeartbeats 400000 in
theorem implStringOfBits_any (a : Option Addr) (n c : Nat) (xs : List Int) (w : World) (h : Rd .i64 w a n xs) (hn : n ≤ 1000000000) (hcap : n ≤ c ∧ c ≤ 9223372036854775807) :
    Calls Try.prog 53 #[.slice a n c] w (Ret (.tuple #[.string (rStringOfBits xs).1, .int .i64 (rStringOfBits xs).2]) w) := by
  obtain ⟨i0, hi, hz0, hz1, hz2⟩ := info_parts info_uint8
  have HL := Lib.hid h.len
  obtain ⟨hc1, hc2⟩ := hcap
  cases hb : isBits xs with
  | false =>
    have hr := Lib.hid (show rStringOfBits xs = (ByteArray.empty, 1) by unfold rStringOfBits; rw [if_pos hb])
    go_enter Try.func53, Try.ntmps53
    go_wp2_with (go_at_call 58; refine (implIsBits_any _ _ _ _ _ h (by omega)).mono ?_; rintro e w' ⟨rfl, rfl⟩)
    go_ret2
    exact ⟨ret2_str hr.out, Below.refl _ _⟩
  | true =>
    have hbits := Lib.hid ((isBits_iff xs).1 hb).2
    have hn8 : n ≤ 8192 := by have e1 := ((isBits_iff xs).1 hb).1; have e2 := HL.out; omega
    by_cases hm : n % 8 = 0
    · obtain ⟨q, rfl⟩ : ∃ q, n = 8 * q := ⟨n / 8, by omega⟩
      have hr := Lib.hid (show rStringOfBits xs = (strOfNums (octs xs q), 0) by
        unfold rStringOfBits; rw [if_neg (by simp [hb]), if_neg (by rw [HL.out]; omega), HL.out]; congr 2; congr 1; omega)
      have hmod : (((8 * q : Nat) : Int) % 8 != 0) = false := by rw [bne_eq_false_iff_eq]; omega
      go_enter Try.func53, Try.ntmps53
      go_wp2_with (first | (go_at_call 58; refine (implIsBits_any _ _ _ _ _ h (by omega)).mono ?_; rintro e w' ⟨rfl, rfl⟩) | (at_make; refine wpList_make_own _ rfl _ _ 52 rfl w.heap.size 5 i0 (.int .u8 0) 1 Try.underlying52 hi hz0 hz1 .i64 .i64 _ q rfl rfl (by omega) (by rw [hz2]; omega) (by unfold maxLen; omega) (Nat.le_refl _) ?_; intro w1 hown1 hg1))
      go_loopw [4, 5] (fun l i wr => ∃ (a' : Option Addr) (n' c' k : Nat), k ≤ q ∧ i = .int .i64 ((8 * k : Nat) : Int) ∧ l = .slice a' n' c' ∧ Ow .u8 5 w.heap.size wr a' n' c' (octs xs k) ∧ n' ≤ k ∧ Below w.heap.size w wr) (fun _ i _ => 8 * q - (intOf i).toNat)
      case atStart => exact ⟨_, _, _, 0, Nat.zero_le _, rfl, rfl, hown1, Nat.le_refl _, (Below.refl _ _).grown hg1 (Nat.le_refl _) (by simp)⟩
      case round =>
        clear hown1 hg1
        obtain ⟨a', n', c', k, hk, rfl, rfl, hown, hn', hbel⟩ := hrel
        have hBr := hbel.size
        by_cases hlt : k < q
        · have hnum := part_num8 hbits.out (8 * k)
          have hT := Lib.hid (octs_succ xs k)
          go_wp2_with (first | (go_at_call 87; refine (numberAt_any _ _ _ xs _ _ _ (h.to hbel) hbits (by omega) (by omega) (by omega) (by omega) (by omega) (by omega) (by omega)).mono ?_; rintro e w' ⟨rfl, rfl⟩) | (at_builtin; refine wpList_push .u8 _ rfl _ _ 52 rfl w.heap.size 5 _ i0 1 Try.underlying52 hi hz0 hz1 hz2 (by omega) a' n' c' _ _ rfl hown rfl (by omega) (by omega) ?_; intro a2 n2 c2 w2 hown2 hbel2))
          go_roundw
          case rel => exact ⟨a2, n2, c2, k + 1, by omega, by go_num, rfl, by rw [hT.out]; exact hown2, by have e1 := hown2.len; have e2 := hown.len; simp at e1 e2; omega, hbel.trans hbel2⟩
          case measure => simp [intOf]; omega
        · obtain rfl : k = q := by omega
          have hcv := conv_str (P := Try.prog) hown 52 9 5 Try.underlying52 Try.underlying5 Try.underlying9
          go_wp2
          go_ret2
          exact ⟨ret2_str hr.out, hbel⟩
    · have hr := Lib.hid (show rStringOfBits xs = (ByteArray.empty, 5) by
        unfold rStringOfBits; rw [if_neg (by simp [hb]), if_pos (by rw [HL.out]; omega)])
      have hmod : ((n : Int) % 8 != 0) = true := by rw [bne_iff_ne]; omega
      go_enter Try.func53, Try.ntmps53
      go_wp2_with (go_at_call 58; refine (implIsBits_any _ _ _ _ _ h (by omega)).mono ?_; rintro e w' ⟨rfl, rfl⟩)
      go_ret2
      exact ⟨ret2_str hr.out, Below.refl _ _⟩
set_option maxRecDepth 20000 in
set_option maxHeartbeats 400000 in
theorem l01String_any (a : Option Addr) (q c : Nat) (xs : List Int) (w : World) (h : Rd .i64 w a (8 * q) xs) (hbits : Hid (∀ x ∈ xs, x = 0 ∨ x = 1)) (hn : q ≤ 1024) :
    Calls Try.prog 94 #[.slice a (8 * q) c] w (Ret (.string (strOfNums (octs xs q))) w) := by
  obtain ⟨i0, hi, hz0, hz1, hz2⟩ := info_parts info_uint8
  have HL := Lib.hid h.len
  have hO := Ow.empty .u8 5 w.heap.size w (Nat.le_refl _)
  have hBb := (Below.refl w.heap.size w).alloc (Nat.le_refl _) (.cells #[] 5)
  go_enter Try.func94, Try.ntmps94
  go_wp2
  go_loopw [3, 4] (fun l i wr => ∃ (a' : Option Addr) (n' c' k : Nat), k ≤ q ∧ i = .int .i64 ((8 * k : Nat) : Int) ∧ l = .slice a' n' c' ∧ Ow .u8 5 w.heap.size wr a' n' c' (octs xs k) ∧ n' ≤ k ∧ Below w.heap.size w wr) (fun _ i _ => 8 * q - (intOf i).toNat)
  case atStart => exact ⟨_, _, _, 0, Nat.zero_le _, rfl, rfl, hO, Nat.le_refl _, hBb⟩
  case round =>
    clear hO hBb
    obtain ⟨a', n', c', k, hk, rfl, rfl, hown, hn', hbel⟩ := hrel
    have hBr := hbel.size
    by_cases hlt : k < q
    · have hnum := part_num8 hbits.out (8 * k)
      have hT := Lib.hid (octs_succ xs k)
      go_wp2_with (first | (go_at_call 108; refine (l01Number_any _ _ _ xs _ _ _ (h.to hbel) hbits (by omega) (by omega) (by omega) (by omega) (by omega)).mono ?_; rintro e w' ⟨rfl, rfl⟩) | (at_builtin; refine wpList_push .u8 _ rfl _ _ 52 rfl w.heap.size 5 _ i0 1 Try.underlying52 hi hz0 hz1 hz2 (by omega) a' n' c' _ _ rfl hown rfl (by omega) (by omega) ?_; intro a2 n2 c2 w2 hown2 hbel2))
      go_roundw
      case rel => exact ⟨a2, n2, c2, k + 1, by omega, by go_num, rfl, by rw [hT.out]; exact hown2, by have e1 := hown2.len; have e2 := hown.len; simp at e1 e2; omega, hbel.trans hbel2⟩
      case measure => simp [intOf]; omega
    · obtain rfl : k = q := by omega
      have hcv := conv_str (P := Try.prog) hown 52 9 5 Try.underlying52 Try.underlying5 Try.underlying9
      go_wp2
      go_ret
      exact ⟨rfl, hbel⟩
theorem specStringOfBits_any (a : Option Addr) (n c : Nat) (xs : List Int) (w : World) (h : Rd .i64 w a n xs) (hn : n ≤ 1000000000) (hcap : n ≤ c ∧ c ≤ 9223372036854775807) :
    Calls Try.prog 54 #[.slice a n c] w (Ret (.tuple #[.string (rStringOfBits xs).1, .int .i64 (rStringOfBits xs).2]) w) := by
  have HL := Lib.hid h.len
  cases hb : isBits xs with
  | false =>
    have hr := Lib.hid (show rStringOfBits xs = (ByteArray.empty, 1) by unfold rStringOfBits; rw [if_pos hb])
    go_enter Try.func54, Try.ntmps54
    go_wp2_with (go_at_call 85; refine (specIsBits_any _ _ _ _ _ h (by omega)).mono ?_; rintro e w' ⟨rfl, rfl⟩)
    go_ret2
    exact ⟨ret2_str hr.out, Below.refl _ _⟩
  | true =>
    have hbits := Lib.hid ((isBits_iff xs).1 hb).2
    have hn8 : n ≤ 8192 := by have e1 := ((isBits_iff xs).1 hb).1; have e2 := HL.out; omega
    by_cases hm : n % 8 = 0
    · obtain ⟨q, rfl⟩ : ∃ q, n = 8 * q := ⟨n / 8, by omega⟩
      have hr := Lib.hid (show rStringOfBits xs = (strOfNums (octs xs q), 0) by
        unfold rStringOfBits; rw [if_neg (by simp [hb]), if_neg (by rw [HL.out]; omega), HL.out]; congr 2; congr 1; omega)
      have hmod : (((8 * q : Nat) : Int) % 8 != 0) = false := by rw [bne_eq_false_iff_eq]; omega
      go_enter Try.func54, Try.ntmps54
      go_wp2_with (first | (go_at_call 85; refine (specIsBits_any _ _ _ _ _ h (by omega)).mono ?_; rintro e w' ⟨rfl, rfl⟩) | (go_at_call 94; refine (l01String_any _ q _ xs _ h hbits (by omega)).mono ?_; rintro e w1 ⟨rfl, hb1⟩))
      go_ret2
      exact ⟨ret2_str hr.out, hb1⟩
    · have hr := Lib.hid (show rStringOfBits xs = (ByteArray.empty, 5) by
        unfold rStringOfBits; rw [if_neg (by simp [hb]), if_pos (by rw [HL.out]; omega)])
      have hmod : ((n : Int) % 8 != 0) = true := by rw [bne_iff_ne]; omega
      go_enter Try.func54, Try.ntmps54
      go_wp2_with (go_at_call 85; refine (specIsBits_any _ _ _ _ _ h (by omega)).mono ?_; rintro e w' ⟨rfl, rfl⟩)
      go_ret2
      exact ⟨ret2_str hr.out, Below.refl _ _⟩
end Go.Proofs.Ytagdkaigdehohaa
