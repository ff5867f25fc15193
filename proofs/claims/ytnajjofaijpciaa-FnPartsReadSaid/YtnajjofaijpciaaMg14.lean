/-
  Texts of the proof, one behind the other: each bears its own heading.
  Conditions: as the headings say.
-/
import Derived.Test.YtnajjofaijpciaaMg3
import Derived.Test.YtnajjofaijpciaaFieldOf
import Derived.Test.YtnajjofaijpciaaProg
import Derived.Test.YtnajjofaijpciaaMg2
import Derived.Test.YtnajjofaijpciaaMg1
/-
  Contracts of the functions for segments: characters; the program's modes.
  Conditions: modes that write text.
-/
set_option linter.unusedVariables false
namespace Go.Proofs.Ytnajjofaijpciaa
open Go.RowKit Go.G8
def gCap (m : Int) : Int := if m = 1 then 10 else if m = 2 then 45 else if m = 3 then 32 else 256
def chr (m x : Int) : Int := if m = 4 then x else (gChars m).getD x.toNat 0
def set1 : ByteArray := ⟨#[48, 49, 50, 51, 52, 53, 54, 55, 56, 57]⟩
theorem set1_at : ∀ k (h : k < 10), (((((⟨#[48, 49, 50, 51, 52, 53, 54, 55, 56, 57]⟩ : ByteArray))[k]'h).toNat : Nat) : Int) = (gChars 1).getD k 0 := by decide
theorem set1_chr (x : Int) (h0 : 0 ≤ x) (h1 : x < 10) (h : x.toNat < ((⟨#[48, 49, 50, 51, 52, 53, 54, 55, 56, 57]⟩ : ByteArray)).size) : (((((⟨#[48, 49, 50, 51, 52, 53, 54, 55, 56, 57]⟩ : ByteArray))[x.toNat]'h).toNat : Nat) : Int) = chr 1 x := set1_at x.toNat h
def set2 : ByteArray := ⟨#[48, 49, 50, 51, 52, 53, 54, 55, 56, 57, 65, 66, 67, 68, 69, 70, 71, 72, 73, 74, 75, 76, 77, 78, 79, 80, 81, 82, 83, 84, 85, 86, 87, 88, 89, 90, 32, 33, 35, 38, 40, 41, 43, 45, 47]⟩
theorem set2_at : ∀ k (h : k < 45), (((((⟨#[48, 49, 50, 51, 52, 53, 54, 55, 56, 57, 65, 66, 67, 68, 69, 70, 71, 72, 73, 74, 75, 76, 77, 78, 79, 80, 81, 82, 83, 84, 85, 86, 87, 88, 89, 90, 32, 33, 35, 38, 40, 41, 43, 45, 47]⟩ : ByteArray))[k]'h).toNat : Nat) : Int) = (gChars 2).getD k 0 := by decide
theorem set2_chr (x : Int) (h0 : 0 ≤ x) (h1 : x < 45) (h : x.toNat < ((⟨#[48, 49, 50, 51, 52, 53, 54, 55, 56, 57, 65, 66, 67, 68, 69, 70, 71, 72, 73, 74, 75, 76, 77, 78, 79, 80, 81, 82, 83, 84, 85, 86, 87, 88, 89, 90, 32, 33, 35, 38, 40, 41, 43, 45, 47]⟩ : ByteArray)).size) : (((((⟨#[48, 49, 50, 51, 52, 53, 54, 55, 56, 57, 65, 66, 67, 68, 69, 70, 71, 72, 73, 74, 75, 76, 77, 78, 79, 80, 81, 82, 83, 84, 85, 86, 87, 88, 89, 90, 32, 33, 35, 38, 40, 41, 43, 45, 47]⟩ : ByteArray))[x.toNat]'h).toNat : Nat) : Int) = chr 2 x := set2_at x.toNat h
def set3 : ByteArray := ⟨#[97, 98, 99, 100, 101, 102, 103, 104, 105, 106, 107, 108, 109, 110, 111, 112, 113, 114, 115, 116, 117, 118, 119, 120, 121, 122, 32, 10, 44, 46, 39, 63]⟩
theorem set3_at : ∀ k (h : k < 32), (((((⟨#[97, 98, 99, 100, 101, 102, 103, 104, 105, 106, 107, 108, 109, 110, 111, 112, 113, 114, 115, 116, 117, 118, 119, 120, 121, 122, 32, 10, 44, 46, 39, 63]⟩ : ByteArray))[k]'h).toNat : Nat) : Int) = (gChars 3).getD k 0 := by decide
theorem set3_chr (x : Int) (h0 : 0 ≤ x) (h1 : x < 32) (h : x.toNat < ((⟨#[97, 98, 99, 100, 101, 102, 103, 104, 105, 106, 107, 108, 109, 110, 111, 112, 113, 114, 115, 116, 117, 118, 119, 120, 121, 122, 32, 10, 44, 46, 39, 63]⟩ : ByteArray)).size) : (((((⟨#[97, 98, 99, 100, 101, 102, 103, 104, 105, 106, 107, 108, 109, 110, 111, 112, 113, 114, 115, 116, 117, 118, 119, 120, 121, 122, 32, 10, 44, 46, 39, 63]⟩ : ByteArray))[x.toNat]'h).toNat : Nat) : Int) = chr 3 x := set3_at x.toNat h
set_option maxRecDepth 20000 in
theorem l09Character_any (m x : Int) (w : World) (h : 1 ≤ m ∧ m ≤ 4) (h0 : 0 ≤ x) (h1 : x < gCap m) : Calls Try.prog 57 #[.int .i64 m, .int .i64 x] w (RetS (.int .u8 (chr m x)) w) := by
  rcases mode_cases h with rfl | rfl | rfl | rfl
  · have h2 : x < 10 := h1
    have hr := Lib.hid (set1_chr x h0 h2)
    clear h h1
    go_enter Try.func57, Try.ntmps57
    go_wp2
    go_ret
    exact ⟨ret_int (hr.out _), rfl⟩
  · have h2 : x < 45 := h1
    have hr := Lib.hid (set2_chr x h0 h2)
    clear h h1
    go_enter Try.func57, Try.ntmps57
    go_wp2
    go_ret
    exact ⟨ret_int (hr.out _), rfl⟩
  · have h2 : x < 32 := h1
    have hr := Lib.hid (set3_chr x h0 h2)
    clear h h1
    go_enter Try.func57, Try.ntmps57
    go_wp2
    go_ret
    exact ⟨ret_int (hr.out _), rfl⟩
  · have h2 : x < 256 := h1
    have hr := Lib.hid (show chr 4 x = x from rfl)
    clear h h1
    go_enter Try.func57, Try.ntmps57
    go_wp2
    go_ret
    exact ⟨ret_int hr.out.symm, rfl⟩
def mode1 (a : Option Addr) : Value := .agg #[.string ⟨#[48, 49, 50, 51, 52, 53, 54, 55, 56, 57]⟩, .slice a 3 3]
theorem base_1 (a : Option Addr) (w : World) : Calls Try.prog 112 #[(.agg #[.string ⟨#[48, 49, 50, 51, 52, 53, 54, 55, 56, 57]⟩, .slice a 3 3])] w (Ret (.int .i64 10) w) := by
  go_enter Try.func112, Try.ntmps112
  go_wp2
  go_ret
  first | exact ⟨rfl, Below.refl _ _⟩ | exact ⟨rfl, Below.alloc (Below.refl _ _) (Nat.le_refl _) _⟩
theorem group_1 (a : Option Addr) (w : World) : Calls Try.prog 114 #[(.agg #[.string ⟨#[48, 49, 50, 51, 52, 53, 54, 55, 56, 57]⟩, .slice a 3 3])] w (Ret (.int .i64 3) w) := by
  go_enter Try.func114, Try.ntmps114
  go_wp2
  go_ret
  first | exact ⟨rfl, Below.refl _ _⟩ | exact ⟨rfl, Below.alloc (Below.refl _ _) (Nat.le_refl _) _⟩
theorem character_1 (a : Option Addr) (x : Int) (w : World) (h0 : 0 ≤ x) (h1 : x < 10) : Calls Try.prog 113 #[(.agg #[.string ⟨#[48, 49, 50, 51, 52, 53, 54, 55, 56, 57]⟩, .slice a 3 3]), .int .i64 x] w (Ret (.int .u8 (chr 1 x)) w) := by
  have hr := Lib.hid (set1_chr x h0 h1)
  go_enter Try.func113, Try.ntmps113
  go_wp2
  go_ret
  first | exact ⟨ret_int (hr.out _), Below.refl _ _⟩ | exact ⟨ret_int (hr.out _), Below.alloc (Below.refl _ _) (Nat.le_refl _) _⟩
theorem width_1 (b : Nat) (n : Int) (w : World) (hn : 1 ≤ n ∧ n ≤ 3) (hb : b < w.heap.size) (c0 : w.cell? ⟨b, 0, none⟩ = some (.int .i64 4)) (c1 : w.cell? ⟨b, 1, none⟩ = some (.int .i64 7)) (c2 : w.cell? ⟨b, 2, none⟩ = some (.int .i64 10)) : Calls Try.prog 116 #[.agg #[.string ⟨#[48, 49, 50, 51, 52, 53, 54, 55, 56, 57]⟩, .slice (some ⟨b, 0, none⟩) 3 3], .int .i64 n] w (Ret (.int .i64 (gWidth 1 n)) w) := by
  have hc : n = 1 ∨ n = 2 ∨ n = 3 := by omega
  have d0 := (alloc_cell_old w (.cells #[.string ⟨#[48, 49, 50, 51, 52, 53, 54, 55, 56, 57]⟩, .slice (some ⟨b, 0, none⟩) 3 3] 106) b 0 hb).trans c0
  have d1 := (alloc_cell_old w (.cells #[.string ⟨#[48, 49, 50, 51, 52, 53, 54, 55, 56, 57]⟩, .slice (some ⟨b, 0, none⟩) 3 3] 106) b 1 hb).trans c1
  have d2 := (alloc_cell_old w (.cells #[.string ⟨#[48, 49, 50, 51, 52, 53, 54, 55, 56, 57]⟩, .slice (some ⟨b, 0, none⟩) 3 3] 106) b 2 hb).trans c2
  clear hn
  rcases hc with rfl | rfl | rfl
  all_goals
    go_enter Try.func116, Try.ntmps116
    go_wp2
    go_ret
    first | exact ⟨rfl, Below.refl _ _⟩ | exact ⟨rfl, Below.alloc (Below.refl _ _) (Nat.le_refl _) _⟩
def mode2 (a : Option Addr) : Value := .agg #[.string ⟨#[48, 49, 50, 51, 52, 53, 54, 55, 56, 57, 65, 66, 67, 68, 69, 70, 71, 72, 73, 74, 75, 76, 77, 78, 79, 80, 81, 82, 83, 84, 85, 86, 87, 88, 89, 90, 32, 33, 35, 38, 40, 41, 43, 45, 47]⟩, .slice a 2 2]
theorem base_2 (a : Option Addr) (w : World) : Calls Try.prog 112 #[(.agg #[.string ⟨#[48, 49, 50, 51, 52, 53, 54, 55, 56, 57, 65, 66, 67, 68, 69, 70, 71, 72, 73, 74, 75, 76, 77, 78, 79, 80, 81, 82, 83, 84, 85, 86, 87, 88, 89, 90, 32, 33, 35, 38, 40, 41, 43, 45, 47]⟩, .slice a 2 2])] w (Ret (.int .i64 45) w) := by
  go_enter Try.func112, Try.ntmps112
  go_wp2
  go_ret
  first | exact ⟨rfl, Below.refl _ _⟩ | exact ⟨rfl, Below.alloc (Below.refl _ _) (Nat.le_refl _) _⟩
theorem group_2 (a : Option Addr) (w : World) : Calls Try.prog 114 #[(.agg #[.string ⟨#[48, 49, 50, 51, 52, 53, 54, 55, 56, 57, 65, 66, 67, 68, 69, 70, 71, 72, 73, 74, 75, 76, 77, 78, 79, 80, 81, 82, 83, 84, 85, 86, 87, 88, 89, 90, 32, 33, 35, 38, 40, 41, 43, 45, 47]⟩, .slice a 2 2])] w (Ret (.int .i64 2) w) := by
  go_enter Try.func114, Try.ntmps114
  go_wp2
  go_ret
  first | exact ⟨rfl, Below.refl _ _⟩ | exact ⟨rfl, Below.alloc (Below.refl _ _) (Nat.le_refl _) _⟩
theorem character_2 (a : Option Addr) (x : Int) (w : World) (h0 : 0 ≤ x) (h1 : x < 45) : Calls Try.prog 113 #[(.agg #[.string ⟨#[48, 49, 50, 51, 52, 53, 54, 55, 56, 57, 65, 66, 67, 68, 69, 70, 71, 72, 73, 74, 75, 76, 77, 78, 79, 80, 81, 82, 83, 84, 85, 86, 87, 88, 89, 90, 32, 33, 35, 38, 40, 41, 43, 45, 47]⟩, .slice a 2 2]), .int .i64 x] w (Ret (.int .u8 (chr 2 x)) w) := by
  have hr := Lib.hid (set2_chr x h0 h1)
  go_enter Try.func113, Try.ntmps113
  go_wp2
  go_ret
  first | exact ⟨ret_int (hr.out _), Below.refl _ _⟩ | exact ⟨ret_int (hr.out _), Below.alloc (Below.refl _ _) (Nat.le_refl _) _⟩
theorem width_2 (b : Nat) (n : Int) (w : World) (hn : 1 ≤ n ∧ n ≤ 2) (hb : b < w.heap.size) (c0 : w.cell? ⟨b, 0, none⟩ = some (.int .i64 6)) (c1 : w.cell? ⟨b, 1, none⟩ = some (.int .i64 11)) : Calls Try.prog 116 #[.agg #[.string ⟨#[48, 49, 50, 51, 52, 53, 54, 55, 56, 57, 65, 66, 67, 68, 69, 70, 71, 72, 73, 74, 75, 76, 77, 78, 79, 80, 81, 82, 83, 84, 85, 86, 87, 88, 89, 90, 32, 33, 35, 38, 40, 41, 43, 45, 47]⟩, .slice (some ⟨b, 0, none⟩) 2 2], .int .i64 n] w (Ret (.int .i64 (gWidth 2 n)) w) := by
  have hc : n = 1 ∨ n = 2 := by omega
  have d0 := (alloc_cell_old w (.cells #[.string ⟨#[48, 49, 50, 51, 52, 53, 54, 55, 56, 57, 65, 66, 67, 68, 69, 70, 71, 72, 73, 74, 75, 76, 77, 78, 79, 80, 81, 82, 83, 84, 85, 86, 87, 88, 89, 90, 32, 33, 35, 38, 40, 41, 43, 45, 47]⟩, .slice (some ⟨b, 0, none⟩) 2 2] 106) b 0 hb).trans c0
  have d1 := (alloc_cell_old w (.cells #[.string ⟨#[48, 49, 50, 51, 52, 53, 54, 55, 56, 57, 65, 66, 67, 68, 69, 70, 71, 72, 73, 74, 75, 76, 77, 78, 79, 80, 81, 82, 83, 84, 85, 86, 87, 88, 89, 90, 32, 33, 35, 38, 40, 41, 43, 45, 47]⟩, .slice (some ⟨b, 0, none⟩) 2 2] 106) b 1 hb).trans c1
  clear hn
  rcases hc with rfl | rfl
  all_goals
    go_enter Try.func116, Try.ntmps116
    go_wp2
    go_ret
    first | exact ⟨rfl, Below.refl _ _⟩ | exact ⟨rfl, Below.alloc (Below.refl _ _) (Nat.le_refl _) _⟩
def mode3 (a : Option Addr) : Value := .agg #[.string ⟨#[97, 98, 99, 100, 101, 102, 103, 104, 105, 106, 107, 108, 109, 110, 111, 112, 113, 114, 115, 116, 117, 118, 119, 120, 121, 122, 32, 10, 44, 46, 39, 63]⟩, .slice a 1 1]
theorem base_3 (a : Option Addr) (w : World) : Calls Try.prog 112 #[(.agg #[.string ⟨#[97, 98, 99, 100, 101, 102, 103, 104, 105, 106, 107, 108, 109, 110, 111, 112, 113, 114, 115, 116, 117, 118, 119, 120, 121, 122, 32, 10, 44, 46, 39, 63]⟩, .slice a 1 1])] w (Ret (.int .i64 32) w) := by
  go_enter Try.func112, Try.ntmps112
  go_wp2
  go_ret
  first | exact ⟨rfl, Below.refl _ _⟩ | exact ⟨rfl, Below.alloc (Below.refl _ _) (Nat.le_refl _) _⟩
theorem group_3 (a : Option Addr) (w : World) : Calls Try.prog 114 #[(.agg #[.string ⟨#[97, 98, 99, 100, 101, 102, 103, 104, 105, 106, 107, 108, 109, 110, 111, 112, 113, 114, 115, 116, 117, 118, 119, 120, 121, 122, 32, 10, 44, 46, 39, 63]⟩, .slice a 1 1])] w (Ret (.int .i64 1) w) := by
  go_enter Try.func114, Try.ntmps114
  go_wp2
  go_ret
  first | exact ⟨rfl, Below.refl _ _⟩ | exact ⟨rfl, Below.alloc (Below.refl _ _) (Nat.le_refl _) _⟩
theorem character_3 (a : Option Addr) (x : Int) (w : World) (h0 : 0 ≤ x) (h1 : x < 32) : Calls Try.prog 113 #[(.agg #[.string ⟨#[97, 98, 99, 100, 101, 102, 103, 104, 105, 106, 107, 108, 109, 110, 111, 112, 113, 114, 115, 116, 117, 118, 119, 120, 121, 122, 32, 10, 44, 46, 39, 63]⟩, .slice a 1 1]), .int .i64 x] w (Ret (.int .u8 (chr 3 x)) w) := by
  have hr := Lib.hid (set3_chr x h0 h1)
  go_enter Try.func113, Try.ntmps113
  go_wp2
  go_ret
  first | exact ⟨ret_int (hr.out _), Below.refl _ _⟩ | exact ⟨ret_int (hr.out _), Below.alloc (Below.refl _ _) (Nat.le_refl _) _⟩
theorem width_3 (b : Nat) (n : Int) (w : World) (hn : 1 ≤ n ∧ n ≤ 1) (hb : b < w.heap.size) (c0 : w.cell? ⟨b, 0, none⟩ = some (.int .i64 5)) : Calls Try.prog 116 #[.agg #[.string ⟨#[97, 98, 99, 100, 101, 102, 103, 104, 105, 106, 107, 108, 109, 110, 111, 112, 113, 114, 115, 116, 117, 118, 119, 120, 121, 122, 32, 10, 44, 46, 39, 63]⟩, .slice (some ⟨b, 0, none⟩) 1 1], .int .i64 n] w (Ret (.int .i64 (gWidth 3 n)) w) := by
  have hc : n = 1 := by omega
  have d0 := (alloc_cell_old w (.cells #[.string ⟨#[97, 98, 99, 100, 101, 102, 103, 104, 105, 106, 107, 108, 109, 110, 111, 112, 113, 114, 115, 116, 117, 118, 119, 120, 121, 122, 32, 10, 44, 46, 39, 63]⟩, .slice (some ⟨b, 0, none⟩) 1 1] 106) b 0 hb).trans c0
  clear hn
  subst hc
  all_goals
    go_enter Try.func116, Try.ntmps116
    go_wp2
    go_ret
    first | exact ⟨rfl, Below.refl _ _⟩ | exact ⟨rfl, Below.alloc (Below.refl _ _) (Nat.le_refl _) _⟩
end Go.Proofs.Ytnajjofaijpciaa
/-
  Contracts of chapter 1 of the program and of the reference: ranges, bit lists, numbers in bit lists.
  Conditions: named at each contract; they are bounds on lengths.
-/
namespace Go.Proofs.Ytnajjofaijpciaa
open Go.RowKit Go.G8

theorem specIsBits_any (a : Option Addr) (n c : Nat) (xs : List Int) (w : World) (h : Rd .i64 w a n xs) (hn : n ≤ 1000000000) :
    Calls Try.prog 29 #[.slice a n c] w (RetS (.bool (isBits xs)) w) := by
  have HL := Lib.hid h.len
  by_cases hlong : 8192 < n
  · have hr := Lib.hid (isBits_long (xs := xs) (by rw [HL.out]; exact hlong))
    go_enter Try.func29, Try.ntmps29
    go_wp2
    go_ret
    exact ⟨ret_bool hr.out.symm, rfl⟩
  · go_enter Try.func29, Try.ntmps29
    go_wp2
    go_loop [3] (fun i => ∃ k : Nat, k ≤ n ∧ i = .int .i64 k ∧ Hid (∀ x ∈ xs.take k, x = 0 ∨ x = 1)) (fun i => n - (intOf i).toNat)
    case atStart => exact ⟨0, Nat.zero_le _, rfl, by intro x hx; simp at hx⟩
    case round =>
      obtain ⟨k, hk, rfl, hall⟩ := hrel
      by_cases hlt : k < n
      · obtain ⟨b, o, x, rfl, -, hc, hx, -, -⟩ := h.at_ hlt
        by_cases h01 : x = 0 ∨ x = 1
        · have H01 := Lib.hid h01
          have h1 : 0 ≤ x ∧ x ≤ 1 := by omega
          clear h01
          go_wp2_with (go_at_call 30; refine (l01In_yes _ _ _ _ (by omega)).mono ?_; rintro e w' ⟨rfl, rfl⟩)
          go_round
          case rel => exact ⟨k + 1, by omega, by go_num, all_take hx.out hall.out H01.out⟩
          case measure => simp [intOf]; omega
        · have hr := Lib.hid (isBits_at hx.out h01)
          have h1 : ¬ (0 ≤ x ∧ x ≤ 1) := by omega
          clear h01
          go_wp2_with (go_at_call 30; refine (l01In_no _ _ _ _ (by omega)).mono ?_; rintro e w' ⟨rfl, rfl⟩)
          go_ret
          exact ⟨ret_bool hr.out.symm, rfl⟩
      · obtain rfl : k = n := by omega
        go_wp2
        go_ret
        exact ⟨ret_bool (isBits_all (by rw [HL.out]; omega) (by have := hall.out; rwa [List.take_of_length_le (by rw [HL.out]; exact Nat.le_refl _)] at this)).symm, rfl⟩
theorem implIsBits_any (a : Option Addr) (n c : Nat) (xs : List Int) (w : World) (h : Rd .i64 w a n xs) (hn : n ≤ 1000000000) :
    Calls Try.prog 32 #[.slice a n c] w (RetS (.bool (isBits xs)) w) := by
  have HL := Lib.hid h.len
  by_cases hlong : 8192 < n
  · have hr := Lib.hid (isBits_long (xs := xs) (by rw [HL.out]; exact hlong))
    go_enter Try.func32, Try.ntmps32
    go_wp2
    go_ret
    exact ⟨ret_bool hr.out.symm, rfl⟩
  · go_enter Try.func32, Try.ntmps32
    go_wp2
    go_loop [10] (fun i => ∃ k : Nat, k ≤ n ∧ i = .int .i64 k ∧ Hid (∀ x ∈ xs.take k, x = 0 ∨ x = 1)) (fun i => n - (intOf i).toNat)
    case atStart => exact ⟨0, Nat.zero_le _, rfl, by intro x hx; simp at hx⟩
    case round =>
      obtain ⟨k, hk, rfl, hall⟩ := hrel
      by_cases hlt : k < n
      · obtain ⟨b, o, x, rfl, -, hc, hx, hx1, hx2⟩ := h.at_ hlt
        by_cases h01 : x = 0 ∨ x = 1
        · have H01 := Lib.hid h01
          have hb : (bits .andNot .i64 x 1 != 0) = false := by rcases h01 with rfl | rfl <;> decide
          clear h01
          go_wp2
          go_round
          case rel => exact ⟨k + 1, by omega, by go_num, all_take hx.out hall.out H01.out⟩
          case measure => simp [intOf]; omega
        · have hr := Lib.hid (isBits_at hx.out h01)
          have hb := i64_andNot1_no x ⟨hx1, hx2⟩ h01
          clear h01
          go_wp2
          go_ret
          exact ⟨ret_bool hr.out.symm, rfl⟩
      · obtain rfl : k = n := by omega
        go_wp2
        go_ret
        exact ⟨ret_bool (isBits_all (by rw [HL.out]; omega) (by have := hall.out; rwa [List.take_of_length_le (by rw [HL.out]; exact Nat.le_refl _)] at this)).symm, rfl⟩
end Go.Proofs.Ytnajjofaijpciaa
/-
  Contracts of chapter 1 of the program and of the reference: numbers in bit lists.
  Conditions: named at each contract; they are bounds on lengths.
-/
set_option linter.unusedVariables false
namespace Go.Proofs.Ytnajjofaijpciaa
open Go.RowKit Go.G8

theorem l01Number_any (a : Option Addr) (n c : Nat) (xs : List Int) (at_ wd : Int) (w : World) (h : Rd .i64 w a n xs) (hb : Hid (∀ x ∈ xs, x = 0 ∨ x = 1)) (hn : n ≤ 1000000000) (h0 : 0 ≤ at_) (h1 : 0 ≤ wd) (h2 : wd ≤ 32) (h3 : at_ + wd ≤ n) :
    Calls Try.prog 42 #[.slice a n c, .int .i64 at_, .int .i64 wd] w (RetS (.int .i64 (num (bpart xs at_.toNat wd.toNat))) w) := by
  obtain ⟨i, rfl⟩ := Int.eq_ofNat_of_zero_le h0
  obtain ⟨d, rfl⟩ := Int.eq_ofNat_of_zero_le h1
  go_enter Try.func42, Try.ntmps42
  go_wp2
  go_loop [7, 8] (fun v j => ∃ k : Nat, k ≤ d ∧ j = .int .i64 k ∧ v = .int .i64 (num (bpart xs i k))) (fun _ j => d - (intOf j).toNat)
  case atStart => exact ⟨0, Nat.zero_le _, rfl, rfl⟩
  case round =>
    obtain ⟨k, hk, rfl, rfl⟩ := hrel
    obtain ⟨hb1, hb2⟩ := part_num hb.out i k (by omega)
    by_cases hlt : k < d
    · obtain ⟨b, o, x, rfl, -, hc, hx, -, -⟩ := h.at_ (k := i + k) (by omega)
      have hx01 := hb.out x (List.mem_of_getElem? hx.out)
      have hS := Lib.hid (part_snoc hx.out)
      have hx2 : 0 ≤ x ∧ x ≤ 1 := by omega
      clear hx01
      go_wp2
      go_round
      case rel => exact ⟨k + 1, by omega, by go_num, by rw [hS.out, num_snoc]⟩
      case measure => simp [intOf]; omega
    · obtain rfl : k = d := by omega
      go_wp2
      go_ret
      exact ⟨rfl, rfl⟩
theorem numberAt_any (a : Option Addr) (n c : Nat) (xs : List Int) (at_ wd : Int) (w : World) (h : Rd .i64 w a n xs) (hb : Hid (∀ x ∈ xs, x = 0 ∨ x = 1)) (hn : n ≤ 1000000000) (hc1 : n ≤ c) (hc2 : c ≤ 9223372036854775807) (h0 : 0 ≤ at_) (h1 : 0 ≤ wd) (h2 : wd ≤ 32) (h3 : at_ + wd ≤ n) :
    Calls Try.prog 44 #[.slice a n c, .int .i64 at_, .int .i64 wd] w (RetS (.int .i64 (num (bpart xs at_.toNat wd.toNat))) w) := by
  obtain ⟨i, rfl⟩ := Int.eq_ofNat_of_zero_le h0
  obtain ⟨d, rfl⟩ := Int.eq_ofNat_of_zero_le h1
  by_cases hd : d = 0
  · subst hd
    have hv := Lib.hid (show num (bpart xs i 0) = 0 by simp [bpart, num])
    go_enter Try.func44, Try.ntmps44
    go_wp2
    all_goals
      refine wp_loop_rounds 1 ?_
      rw [rounds_succ]
      go_wp2
      go_ret
      exact ⟨ret_int (by simpa using hv.out.symm), rfl⟩
  · obtain ⟨b, o, y, rfl, -, -, -, -, -⟩ := h.at_ (k := i) (by omega)
    have hci : ¬ c = i := by omega
    go_enter Try.func44, Try.ntmps44
    go_wp2
    go_loop [7, 17] (fun v j => ∃ k : Nat, k ≤ d ∧ j = .int .i64 k ∧ v = .int .i64 (num (bpart xs i k))) (fun _ j => d - (intOf j).toNat)
    case atStart => exact ⟨0, Nat.zero_le _, rfl, rfl⟩
    case round =>
      obtain ⟨k, hk, rfl, rfl⟩ := hrel
      obtain ⟨hb1, hb2⟩ := part_num hb.out i k (by omega)
      by_cases hlt : k < d
      · obtain ⟨x, hc, hx, -⟩ := h.cell (k := i + k) (by omega)
        rw [← Nat.add_assoc] at hc
        have hx01 := hb.out x (List.mem_of_getElem? hx.out)
        have hS := Lib.hid (part_snoc hx.out)
        have hor := i64_or_bit (num (bpart xs i k)) x hb1 (by omega) hx01
        clear hx01
        go_wp2
        go_round
        case rel => exact ⟨k + 1, by omega, by go_num, by rw [hS.out, num_snoc]⟩
        case measure => simp [intOf]; omega
      · obtain rfl : k = d := by omega
        go_wp2
        go_ret
        exact ⟨rfl, rfl⟩
end Go.Proofs.Ytnajjofaijpciaa
/-
  What reading a segment answers, in plain words.
  Conditions: none.
-/
set_option linter.unusedVariables false
namespace Go.Proofs.Ytnajjofaijpciaa
open Go.RowKit Go.G8
/-- The characters of the lowest j digits of v, high first, and what is left of v. -/
def gGroup (m : Int) : Nat → Int → List Int × Int
  | 0, v => ([], v)
  | j + 1, v => (chr m ((gGroup m j v).2 % gCap m) :: (gGroup m j v).1, (gGroup m j v).2 / gCap m)
def gText (m : Int) (n : Nat) : Int := gLen m n - 11
def gTake (m : Int) (n : Nat) : Nat := min (gSize m).toNat n
def segL (xs : List Int) (m : Int) : Nat → Nat → Nat → Option (List Int × Nat)
  | 0, _, at_ => some ([], at_)
  | f + 1, n, at_ => if n = 0 then some ([], at_) else
      let g := gGroup m (gTake m n) (num (bpart xs at_ (gWidth m (gTake m n)).toNat))
      if 0 < g.2 then none else (segL xs m f (n - gTake m n) (at_ + (gWidth m (gTake m n)).toNat)).map fun r => (g.1 ++ r.1, r.2)
def rSeg (xs : List Int) (at_ : Nat) : Option (Int × List Int × Nat) :=
  if xs.length < at_ + 11 then none else
  if 1 ≤ num (bpart xs at_ 3) ∧ num (bpart xs at_ 3) ≤ 4 ∧ num (bpart xs (at_ + 3) 8) ≠ 0 ∧ (at_ : Int) + gLen (num (bpart xs at_ 3)) (num (bpart xs (at_ + 3) 8)).toNat ≤ xs.length then
    (segL xs (num (bpart xs at_ 3)) (num (bpart xs (at_ + 3) 8)).toNat (num (bpart xs (at_ + 3) 8)).toNat (at_ + 11)).map fun r => (num (bpart xs at_ 3), r.1, r.2)
  else none
theorem gGroup_len (m : Int) (j : Nat) (v : Int) : (gGroup m j v).1.length = j := by
  induction j with
  | zero => rfl
  | succ j ih => simp [gGroup, ih]
theorem gCap_pos {m : Int} (h : 1 ≤ m ∧ m ≤ 4) : 10 ≤ gCap m ∧ gCap m ≤ 256 := by
  rcases mode_cases h with rfl | rfl | rfl | rfl <;> decide
theorem gGroup_rest {m : Int} (h : 1 ≤ m ∧ m ≤ 4) (j : Nat) {v : Int} (hv : 0 ≤ v) : 0 ≤ (gGroup m j v).2 ∧ (gGroup m j v).2 ≤ v := by
  have hc := gCap_pos h
  induction j with
  | zero => exact ⟨hv, Int.le_refl _⟩
  | succ j ih =>
    show 0 ≤ (gGroup m j v).2 / gCap m ∧ (gGroup m j v).2 / gCap m ≤ v
    refine ⟨Int.ediv_nonneg ih.1 (by omega), Int.le_trans (Int.ediv_le_self _ ih.1) ih.2⟩
theorem gTake_pos {m : Int} (h : 1 ≤ m ∧ m ≤ 4) {n : Nat} (hn : 1 ≤ n) : 1 ≤ gTake m n ∧ gTake m n ≤ n ∧ (gTake m n : Int) ≤ gSize m := by
  rcases mode_cases h with rfl | rfl | rfl | rfl
  · show 1 ≤ min 3 n ∧ min 3 n ≤ n ∧ ((min 3 n : Nat) : Int) ≤ 3; omega
  · show 1 ≤ min 2 n ∧ min 2 n ≤ n ∧ ((min 2 n : Nat) : Int) ≤ 2; omega
  · show 1 ≤ min 1 n ∧ min 1 n ≤ n ∧ ((min 1 n : Nat) : Int) ≤ 1; omega
  · show 1 ≤ min 1 n ∧ min 1 n ≤ n ∧ ((min 1 n : Nat) : Int) ≤ 1; omega
theorem gText_1 (n : Nat) : gText 1 n = (n : Int) / 3 * 10 + (if 0 < (n : Int) % 3 then gWidth 1 ((n : Int) % 3) else 0) := by
  show 11 + (n : Int) / 3 * 10 + (if 0 < (n : Int) % 3 then gWidth 1 ((n : Int) % 3) else 0) - 11 = _
  omega
theorem gText_2 (n : Nat) : gText 2 n = (n : Int) / 2 * 11 + (if 0 < (n : Int) % 2 then gWidth 2 ((n : Int) % 2) else 0) := by
  show 11 + (n : Int) / 2 * 11 + (if 0 < (n : Int) % 2 then gWidth 2 ((n : Int) % 2) else 0) - 11 = _
  omega
theorem gText_3 (n : Nat) : gText 3 n = (n : Int) * 5 := by
  show 11 + (n : Int) / 1 * 5 + (if 0 < (n : Int) % 1 then gWidth 3 ((n : Int) % 1) else 0) - 11 = _
  rw [if_neg (by omega)]
  omega
theorem gText_4 (n : Nat) : gText 4 n = (n : Int) * 8 := by
  show 11 + (n : Int) / 1 * 8 + (if 0 < (n : Int) % 1 then gWidth 4 ((n : Int) % 1) else 0) - 11 = _
  rw [if_neg (by omega)]
  omega
theorem gText_step {m : Int} (h : 1 ≤ m ∧ m ≤ 4) {n : Nat} (hn : 1 ≤ n) : gText m n = gWidth m (gTake m n) + gText m (n - gTake m n) ∧ 0 ≤ gText m (n - gTake m n) ∧ 4 ≤ gWidth m (gTake m n) ∧ gWidth m (gTake m n) ≤ 11 := by
  have w1 : gWidth 1 1 = 4 := rfl
  have w2 : gWidth 1 2 = 7 := rfl
  have w3 : gWidth 1 3 = 10 := rfl
  have v1 : gWidth 2 1 = 6 := rfl
  have v2 : gWidth 2 2 = 11 := rfl
  rcases mode_cases h with rfl | rfl | rfl | rfl
  · rw [gText_1, gText_1]
    show _ = gWidth 1 ((min 3 n : Nat) : Int) + (((n - min 3 n : Nat) : Int) / 3 * 10 + _) ∧ _
    have hc : n = 1 ∨ n = 2 ∨ 3 ≤ n := by omega
    rcases hc with rfl | rfl | h3
    · decide
    · decide
    · have e : gTake 1 n = 3 := by show min 3 n = 3; omega
      have e0 : min 3 n = 3 := by omega
      rw [e, e0]
      have e1 : ((n - 3 : Nat) : Int) % 3 = (n : Int) % 3 := by omega
      have e2 : ((n - 3 : Nat) : Int) / 3 = (n : Int) / 3 - 1 := by omega
      rw [e1, e2, show ((3 : Nat) : Int) = 3 from rfl, w3]
      have hr : (n : Int) % 3 = 0 ∨ (n : Int) % 3 = 1 ∨ (n : Int) % 3 = 2 := by omega
      rcases hr with hr | hr | hr
      · rw [hr, if_neg (by decide)]; omega
      · rw [hr, if_pos (by decide), w1]; omega
      · rw [hr, if_pos (by decide), w2]; omega
  · rw [gText_2, gText_2]
    show _ = gWidth 2 ((min 2 n : Nat) : Int) + (((n - min 2 n : Nat) : Int) / 2 * 11 + _) ∧ _
    have hc : n = 1 ∨ 2 ≤ n := by omega
    rcases hc with rfl | h3
    · decide
    · have e : gTake 2 n = 2 := by show min 2 n = 2; omega
      have e0 : min 2 n = 2 := by omega
      rw [e, e0]
      have e1 : ((n - 2 : Nat) : Int) % 2 = (n : Int) % 2 := by omega
      have e2 : ((n - 2 : Nat) : Int) / 2 = (n : Int) / 2 - 1 := by omega
      rw [e1, e2, show ((2 : Nat) : Int) = 2 from rfl, v2]
      have hr : (n : Int) % 2 = 0 ∨ (n : Int) % 2 = 1 := by omega
      rcases hr with hr | hr
      · rw [hr, if_neg (by decide)]; omega
      · rw [hr, if_pos (by decide), v1]; omega
  · have e : gTake 3 n = 1 := by show min 1 n = 1; omega
    rw [gText_3, gText_3, e, show gWidth 3 ((1 : Nat) : Int) = 5 from rfl]
    omega
  · have e : gTake 4 n = 1 := by show min 1 n = 1; omega
    rw [gText_4, gText_4, e, show gWidth 4 ((1 : Nat) : Int) = 8 from rfl]
    omega
theorem set_front (k : Nat) (c : Int) (l : List Int) : (List.replicate (k + 1) (0 : Int) ++ l).set k c = List.replicate k 0 ++ c :: l := by
  induction k with
  | zero => rfl
  | succ k ih => rw [List.replicate_succ, List.cons_append, List.set_cons_succ, ih]; rfl
end Go.Proofs.Ytnajjofaijpciaa
/-
  Contracts of chapter 1 of the program and of the reference: BitsText, StringOfBits.
  Conditions: named at each contract; they are bounds on lengths.
-/
set_option linter.unusedVariables false
namespace Go.Proofs.Ytnajjofaijpciaa
open Go.RowKit Go.G8
theorem info_uint8 : (Try.prog.info? 5).map (fun i => (i.zero, i.size, i.bytes)) = some (some (.int .u8 0), 1, 1) := by kernel_rfl

end Go.Proofs.Ytnajjofaijpciaa
