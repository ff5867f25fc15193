/-
  Contracts of chapter 1 of the program and of the reference: ReadBits, BitsOfString.
  Conditions: named at each contract; they are bounds on lengths.
-/
import Derived.Test.YtagdkaigdehohaaL01d
set_option linter.unusedVariables false
namespace Go.Proofs.Ytagdkaigdehohaa
open Go.RowKit Go.G8

set_option maxRecDepth 20000 in
set_option maxHeartbeats 400000 in
theorem implReadBits_any (s : ByteArray) (w : World) (hs : s.size ≤ 1048576) :
    Calls Try.prog 57 #[.string s] w (RetRow2 .i64 2 (rReadBits s).1 (.bool (rReadBits s).2) w) := by
  obtain ⟨i0, hi, hz0, hz1, hz2⟩ := info_parts info_int64
  have HS := Lib.hid (strI_length s)
  by_cases hlong : 8192 < s.size
  · have hr := Lib.hid (show rReadBits s = ([], false) by unfold rReadBits; rw [if_pos hlong])
    go_enter Try.func57, Try.ntmps57
    go_wp2
    go_ret2
    exact retRow2b_nil hr.out (Below.refl _ _)
  · go_enter Try.func57, Try.ntmps57
    go_wp2_with (at_make; refine wpList_make_full _ rfl _ _ 23 rfl w.heap.size 2 i0 (.int .i64 0) 1 Try.underlying23 hi hz0 hz1 .i64 .i64 _ _ s.size rfl rfl rfl rfl (by rw [hz2]; omega) (by unfold maxLen; omega) (Nat.le_refl _) ?_; intro w1 hown1 hg1)
    clear hz0 hz1 hz2
    rw [made_ints] at hown1
    go_loopw [5] (fun i wr => ∃ k : Nat, k ≤ s.size ∧ i = .int .i64 k ∧ Ow .i64 2 w.heap.size wr (some ⟨w.heap.size, 0, none⟩) s.size s.size (((strI s).map (· - 48)).take k ++ List.replicate (s.size - k) 0) ∧ Hid (((strI s).take k).all digitC = true) ∧ Below w.heap.size w wr) (fun i _ => s.size - (intOf i).toNat)
    case atStart => exact ⟨0, Nat.zero_le _, rfl, by simpa [Ow] using hown1, rfl, (Below.refl _ _).grown hg1 (Nat.le_refl _) (by simp)⟩
    case round =>
      clear hown1 hg1
      obtain ⟨k, hk, rfl, hown, hall, hbel⟩ := hrel
      have HM := Lib.hid (show ((strI s).map (· - 48)).length = s.size by simp [HS.out])
      by_cases hlt : k < s.size
      · obtain ⟨x, hsx, hx, hx1, hx2⟩ := str_at s k hlt
        have hT := Lib.hid (take_snoc hx.out)
        have hold := hown.cell (fill_get hlt HM.out)
        have hfr := hown.free k
        have hxm := Lib.hid (show ((strI s).map (· - 48))[k]? = some (x - 48) by rw [List.getElem?_map, hx.out]; rfl)
        by_cases h01 : x = 48 ∨ x = 49
        · have hd := Lib.hid (show digitC x = true by simpa [digitC] using h01)
          rcases h01 with rfl | rfl
          all_goals
            go_wp2
            go_roundw
            case rel => exact ⟨k + 1, by omega, by go_num, by rw [← fill_set hxm.out HM.out]; exact hown.set_ k _, all_snoc hx.out hall.out hd.out, hbel.setCell (Nat.le_refl _) _⟩
            case measure => simp [intOf]; omega
        · have hr := Lib.hid (show rReadBits s = ([], false) by unfold rReadBits; rw [if_neg hlong, digit_bad hx.out h01]; rfl)
          have e1 : (x != 48) = true := by rw [bne_iff_ne]; omega
          have e2 : (x != 49) = true := by rw [bne_iff_ne]; omega
          clear h01
          go_wp2
          go_ret2
          exact retRow2b_nil hr.out hbel
      · obtain rfl : k = s.size := by omega
        have hr := Lib.hid (show rReadBits s = ((strI s).map (· - 48), true) by
          unfold rReadBits
          have := hall.out
          rw [List.take_of_length_le (by rw [HS.out]; exact Nat.le_refl _)] at this
          rw [if_neg hlong, this]; rfl)
        rw [fill_all HM.out] at hown
        go_wp2
        go_ret2
        exact retRow2b_of hr.out hown hbel
set_option maxRecDepth 20000 in
set_option maxHeartbeats 400000 in
theorem implBitsOfString_any (s : ByteArray) (w : World) (hs : s.size ≤ 1048576) :
    Calls Try.prog 59 #[.string s] w (RetRow2 .i64 2 (rBitsOfString s).1 (.int .i64 (rBitsOfString s).2) w) := by
  obtain ⟨i0, hi, hz0, hz1, hz2⟩ := info_parts info_int64
  have HS := Lib.hid (strI_length s)
  by_cases hlong : 1024 < s.size
  · have hr := Lib.hid (show rBitsOfString s = ([], 3) by unfold rBitsOfString; rw [if_pos hlong])
    go_enter Try.func59, Try.ntmps59
    go_wp2
    go_ret2
    exact retRow2_nil hr.out (Below.refl _ _)
  · have hr := Lib.hid (show rBitsOfString s = (bytesBits (strI s), 0) by unfold rBitsOfString; rw [if_neg hlong])
    go_enter Try.func59, Try.ntmps59
    go_wp2_with (at_make; refine wpList_make_own _ rfl _ _ 23 rfl w.heap.size 2 i0 (.int .i64 0) 1 Try.underlying23 hi hz0 hz1 .i64 .i64 _ (8 * s.size) rfl rfl (by omega) (by rw [hz2]; omega) (by unfold maxLen; omega) (Nat.le_refl _) ?_; intro w1 hown1 hg1)
    go_loopw [4, 5] (fun l i wr => ∃ (a' : Option Addr) (n' c' k : Nat), k ≤ s.size ∧ i = .int .i64 k ∧ l = .slice a' n' c' ∧ Ow .i64 2 w.heap.size wr a' n' c' (bytesBits ((strI s).take k)) ∧ n' ≤ 8 * k ∧ Below w.heap.size w wr) (fun _ i _ => s.size - (intOf i).toNat)
    case atStart => exact ⟨_, _, _, 0, Nat.zero_le _, rfl, rfl, hown1, Nat.le_refl _, (Below.refl _ _).grown hg1 (Nat.le_refl _) (by simp)⟩
    case round =>
      clear hown1 hg1
      obtain ⟨a', n', c', k, hk, rfl, rfl, hown, hn', hbel⟩ := hrel
      have hBr := hbel.size
      by_cases hlt : k < s.size
      · obtain ⟨x, hsx, hx, hx1, hx2⟩ := str_at s k hlt
        have hT := Lib.hid (take_snoc hx.out)
        go_wp2_with (go_at_call 83; refine (appendNumber_any w.heap.size _ _ _ _ _ _ _ hown (by omega) (by omega) (by omega) (by omega) (by omega)).mono ?_; rintro e w2 ⟨a2, n2, c2, rfl, hown2, hbel2⟩)
        go_roundw
        case rel => exact ⟨a2, n2, c2, k + 1, by omega, by go_num, rfl, by rw [hT.out, bytesBits_snoc]; exact hown2, by have e1 := hown2.len; rw [List.length_append, bytesBits_length, lowBits_length, List.length_take] at e1; simp at e1; omega, hbel.trans hbel2⟩
        case measure => simp [intOf]; omega
      · obtain rfl : k = s.size := by omega
        rw [List.take_of_length_le (by rw [HS.out]; exact Nat.le_refl _)] at hown
        go_wp2
        go_ret2
        exact retRow2_of hr.out hown hbel
set_option maxHeartbeats 800000 in
theorem l01Bits_any (s : ByteArray) (w : World) (hs : s.size ≤ 1048576) :
    Calls Try.prog 92 #[.string s] w (RetRow .i64 2 (bytesBits (strI s)) w) := by
  obtain ⟨i0, hi, hz0, hz1, hz2⟩ := info_parts info_int64
  have HS := Lib.hid (strI_length s)
  have hO := Ow.empty .i64 2 w.heap.size w (Nat.le_refl _)
  have hBb := (Below.refl w.heap.size w).alloc (Nat.le_refl _) (.cells #[] 2)
  go_enter Try.func92, Try.ntmps92
  go_wp2
  go_loopw [3, 4] (fun l i wr => ∃ (a' : Option Addr) (n' c' k : Nat), k ≤ s.size ∧ i = .int .i64 k ∧ l = .slice a' n' c' ∧ Ow .i64 2 w.heap.size wr a' n' c' (bytesBits ((strI s).take k)) ∧ n' ≤ 8 * k ∧ Below w.heap.size w wr) (fun _ i _ => s.size - (intOf i).toNat)
  case atStart => exact ⟨_, _, _, 0, Nat.zero_le _, rfl, rfl, hO, Nat.le_refl _, hBb⟩
  case round =>
    clear hO hBb
    obtain ⟨a', n', c', k, hk, rfl, rfl, hown, hn', hbel⟩ := hrel
    have hBr := hbel.size
    by_cases hlt : k < s.size
    · obtain ⟨x, hsx, hx, hx1, hx2⟩ := str_at s k hlt
      have hT := Lib.hid (take_snoc hx.out)
      go_wp2
      obtain ⟨wo, rfl⟩ : ∃ wo : World, wo = wr := ⟨_, rfl⟩
      go_loopw [3, 5] (fun l j wr => ∃ (a2 : Option Addr) (n2 c2 : Nat) (ys : List Int) (m : Nat), m ≤ 8 ∧ j = .int .i64 ((m : Int) - 1) ∧ l = .slice a2 n2 c2 ∧ Ow .i64 2 w.heap.size wr a2 n2 c2 ys ∧ Hid (ys ++ lowBits x m = bytesBits ((strI s).take k) ++ lowBits x 8) ∧ n2 ≤ 8 * k + (8 - m) ∧ Below w.heap.size w wr) (fun _ j _ => (intOf j + 1).toNat)
      case atStart => exact ⟨_, _, _, _, 8, Nat.le_refl _, rfl, rfl, hown, rfl, by omega, hbel⟩
      case round =>
        clear hown hbel
        obtain ⟨a2, n2, c2, ys, m, hm, rfl, rfl, hown, heq, hn2, hbel⟩ := hrel
        have hBr2 := hbel.size
        rcases m with _ | m
        · go_wp2
          go_roundw
          case rel => exact ⟨a2, n2, c2, k + 1, by omega, by go_num, rfl, by rw [hT.out, bytesBits_snoc]; have := heq.out; simp only [lowBits, List.append_nil] at this; rwa [this] at hown, by omega, hbel⟩
          case measure => simp [intOf]; omega
        · have hb := u8_and1 (x / 2 ^ m)
          have e0 : ((m + 1 : Nat) : Int) - 1 = (m : Int) := by omega
          rw [e0]
          clear e0
          go_wp2_with (at_builtin; refine wpList_push .i64 _ rfl _ _ 23 rfl w.heap.size 2 _ i0 8 Try.underlying23 hi hz0 hz1 hz2 (by omega) a2 n2 c2 ys _ rfl hown rfl (by omega) (by omega) ?_; intro a3 n3 c3 w3 hown3 hbel3)
          go_roundw
          case rel => exact ⟨a3, n3, c3, _, m, by omega, by go_num, rfl, hown3, lowBits_step heq.out, by have e1 := hown3.len; have e2 := hown.len; simp at e1; omega, hbel.trans hbel3⟩
          case measure => simp [intOf]
    · obtain rfl : k = s.size := by omega
      rw [List.take_of_length_le (by rw [HS.out]; exact Nat.le_refl _)] at hown
      go_wp2
      go_ret
      exact ⟨_, _, _, rfl, hown, hbel⟩
end Go.Proofs.Ytagdkaigdehohaa
