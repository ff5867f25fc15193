/-
  Contracts of the functions for segments: characters; the program's modes.
  Conditions: modes that write text.
-/
import Derived.Test.YtnajjofaijpciaaSegB
import Derived.Test.YtnajjofaijpciaaFieldOf
set_option linter.unusedVariables false
namespace Go.Proofs.Ytnajjofaijpciaa
open Go.RowKit Go.G8
def gCap (m : Int) : Int := if m = 1 then 10 else if m = 2 then 45 else if m = 3 then 32 else 256
def chr (m x : Int) : Int := if m = 4 then x else (gChars m).getD x.toNat 0
def set1 : ByteArray := ⟨#[48, 49, 50, 51, 52, 53, 54, 55, 56, 57]⟩
theorem set1_at : ∀ k (h : k < 10), (((((⟨#[48, 49, 50, 51, 52, 53, 54, 55, 56, 57]⟩ : ByteArray))[k]'h).toNat : Nat) : Int) = (gChars 1).getD k 0 := by decide
theorem set1_chr (x : Int) (h0 : 0 ≤ x) (h1 : x < 10) (h : x.toNat < ((⟨#[48, 49, 50, 51, 52, 53, 54, 55, 56, 57]⟩ : ByteArray)).size) : (((((⟨#[48, 49, 50, 51, 52, 53, 54, 55, 56, 57]⟩ : ByteArray))[x.toNat]'h).toNat : Nat) : Int) = chr 1 x := set1_at x.toNat h
def set2 : ByteArray := ⟨#[48, 49, 50, 51, 52, 53, 54, 55, 56, 57, 65, 66, 67, 68, 69, 70, 71, 72, 73, 74, 75, 76, 77, 78, 79, 80, 81, 82, 83, 84, 85, 86, 87, 88, 89, 90, 32, 33, 35, 38, 40, 41, 43, 45, 47]⟩
theorem set2_at : ∀ k (h : k < 45), (((((⟨#[48, 49, 50, 51, 52, 53, 54, 55, 56, 57, 65, 66, 67, 68, 69, 70, 71, 72, 73, 74, 75, 76, 77, 78, 79, 80, 81, 82, 83, 84, 85, 86, 87, 88, 89, 90, 32, 33, 35, 38, 40, 41, 43, 45, 47]⟩ : ByteArray))[k]'h).toNat : Nat) : Int) = (gChars 2).getD k 0 := by decide
theorem set2_chr (x : Int) (h0 : 0 ≤ x) (h1 : x < 45) (h : x.toNat < ((⟨#[48, 49, 50, 51, 52, 53, 54, 55, 56, 57, 65, 66, 67, 68, 69, 70, 71, 72, 73, 74, 75, 76, 77, 78, 79, 80, 81, 82, 83, 84, 85, 86, 87, 88, 89, 90, 32, 33, 35, 38, 40, 41, 43, 45, 47]⟩ : ByteArray)).size) : (((((⟨#[48, 49, 50, 51, 52, 53, 54, 55, 56, 57, 65, 66, 67, 68, 69, 70, 71, 72, 73, 74, 75, 76, 77, 78, 79, 80, 81, 82, 83, 84, 85, 86, 87, 88, 89, 90, 32, 33, 35, 38, 40, 41, 43, 45, 47]⟩ : ByteArray))[x.toNat]'h).toNat : Nat) : Int) = chr 2 x := set2_at x.toNat h
def set3 : ByteArray := ⟨#[97, 98, 99, 100, 101, 102, 103, 104, 105, 106, 107, 108, 109, 110, 111, 112, 113, 114, 115, 116, 117, 118, 119, 120, 121, 122, 32, 10, 44, 46, 39, 63]⟩
theorem set3_at : ∀ k (h : k < 32), (((((⟨#[97, 98, 99, 100, 101, 102, 103, 104, 105, 106, 107, 108, 109, 110, 111, 112, 113, 114, 115, 116, 117, 118, 119, 120, 121, 122, 32, 10, 44, 46, 39, 63]⟩ : ByteArray))[k]'h).toNat : Nat) : Int) = (gChars 3).getD k 0 := by decide
theorem set3_chr (x : Int) (h0 : 0 ≤ x) (h1 : x < 32) (h : x.toNat < ((⟨#[97, 98, 99, 100, 101, 102, 103, 104, 105, 106, 107, 108, 109, 110, 111, 112, 113, 114, 115, 116, 117, 118, 119, 120, 121, 122, 32, 10, 44, 46, 39, 63]⟩ : ByteArray)).size) : (((((⟨#[97, 98, 99, 100, 101, 102, 103, 104, 105, 106, 107, 108, 109, 110, 111, 112, 113, 114, 115, 116, 117, 118, 119, 120, 121, 122, 32, 10, 44, 46, 39, 63]⟩ : ByteArray))[x.toNat]'h).toNat : Nat) : Int) = chr 3 x := set3_at x.toNat h
set_option maxRecDepth 20000 in
theorem l09Character_any (m x : Int) (w : World) (h : 1 ≤ m ∧ m ≤ 4) (h0 : 0 ≤ x) (h1 : x < gCap m) : Calls Try.prog 57 #[.int .i64 m, .int .i64 x] w (RetS (.int .u8 (chr m x)) w) := by
  rcases mode_cases h with rfl | rfl | rfl | rfl
  · have h2 : x < 10 := h1
    have hr := Lib.hid (set1_chr x h0 h2)
    clear h h1
    go_enter Try.func57, Try.ntmps57
    go_wp2
    go_ret
    exact ⟨ret_int (hr.out _), rfl⟩
  · have h2 : x < 45 := h1
    have hr := Lib.hid (set2_chr x h0 h2)
    clear h h1
    go_enter Try.func57, Try.ntmps57
    go_wp2
    go_ret
    exact ⟨ret_int (hr.out _), rfl⟩
  · have h2 : x < 32 := h1
    have hr := Lib.hid (set3_chr x h0 h2)
    clear h h1
    go_enter Try.func57, Try.ntmps57
    go_wp2
    go_ret
    exact ⟨ret_int (hr.out _), rfl⟩
  · have h2 : x < 256 := h1
    have hr := Lib.hid (show chr 4 x = x from rfl)
    clear h h1
    go_enter Try.func57, Try.ntmps57
    go_wp2
    go_ret
    exact ⟨ret_int hr.out.symm, rfl⟩
def mode1 (a : Option Addr) : Value := .agg #[.string ⟨#[48, 49, 50, 51, 52, 53, 54, 55, 56, 57]⟩, .slice a 3 3]
theorem base_1 (a : Option Addr) (w : World) : Calls Try.prog 112 #[(.agg #[.string ⟨#[48, 49, 50, 51, 52, 53, 54, 55, 56, 57]⟩, .slice a 3 3])] w (Ret (.int .i64 10) w) := by
  go_enter Try.func112, Try.ntmps112
  go_wp2
  go_ret
  first | exact ⟨rfl, Below.refl _ _⟩ | exact ⟨rfl, Below.alloc (Below.refl _ _) (Nat.le_refl _) _⟩
theorem group_1 (a : Option Addr) (w : World) : Calls Try.prog 114 #[(.agg #[.string ⟨#[48, 49, 50, 51, 52, 53, 54, 55, 56, 57]⟩, .slice a 3 3])] w (Ret (.int .i64 3) w) := by
  go_enter Try.func114, Try.ntmps114
  go_wp2
  go_ret
  first | exact ⟨rfl, Below.refl _ _⟩ | exact ⟨rfl, Below.alloc (Below.refl _ _) (Nat.le_refl _) _⟩
theorem character_1 (a : Option Addr) (x : Int) (w : World) (h0 : 0 ≤ x) (h1 : x < 10) : Calls Try.prog 113 #[(.agg #[.string ⟨#[48, 49, 50, 51, 52, 53, 54, 55, 56, 57]⟩, .slice a 3 3]), .int .i64 x] w (Ret (.int .u8 (chr 1 x)) w) := by
  have hr := Lib.hid (set1_chr x h0 h1)
  go_enter Try.func113, Try.ntmps113
  go_wp2
  go_ret
  first | exact ⟨ret_int (hr.out _), Below.refl _ _⟩ | exact ⟨ret_int (hr.out _), Below.alloc (Below.refl _ _) (Nat.le_refl _) _⟩
theorem width_1 (b : Nat) (n : Int) (w : World) (hn : 1 ≤ n ∧ n ≤ 3) (hb : b < w.heap.size) (c0 : w.cell? ⟨b, 0, none⟩ = some (.int .i64 4)) (c1 : w.cell? ⟨b, 1, none⟩ = some (.int .i64 7)) (c2 : w.cell? ⟨b, 2, none⟩ = some (.int .i64 10)) : Calls Try.prog 116 #[.agg #[.string ⟨#[48, 49, 50, 51, 52, 53, 54, 55, 56, 57]⟩, .slice (some ⟨b, 0, none⟩) 3 3], .int .i64 n] w (Ret (.int .i64 (gWidth 1 n)) w) := by
  have hc : n = 1 ∨ n = 2 ∨ n = 3 := by omega
  have d0 := (alloc_cell_old w (.cells #[.string ⟨#[48, 49, 50, 51, 52, 53, 54, 55, 56, 57]⟩, .slice (some ⟨b, 0, none⟩) 3 3] 106) b 0 hb).trans c0
  have d1 := (alloc_cell_old w (.cells #[.string ⟨#[48, 49, 50, 51, 52, 53, 54, 55, 56, 57]⟩, .slice (some ⟨b, 0, none⟩) 3 3] 106) b 1 hb).trans c1
  have d2 := (alloc_cell_old w (.cells #[.string ⟨#[48, 49, 50, 51, 52, 53, 54, 55, 56, 57]⟩, .slice (some ⟨b, 0, none⟩) 3 3] 106) b 2 hb).trans c2
  clear hn
  rcases hc with rfl | rfl | rfl
  all_goals
    go_enter Try.func116, Try.ntmps116
    go_wp2
    go_ret
    first | exact ⟨rfl, Below.refl _ _⟩ | exact ⟨rfl, Below.alloc (Below.refl _ _) (Nat.le_refl _) _⟩
def mode2 (a : Option Addr) : Value := .agg #[.string ⟨#[48, 49, 50, 51, 52, 53, 54, 55, 56, 57, 65, 66, 67, 68, 69, 70, 71, 72, 73, 74, 75, 76, 77, 78, 79, 80, 81, 82, 83, 84, 85, 86, 87, 88, 89, 90, 32, 33, 35, 38, 40, 41, 43, 45, 47]⟩, .slice a 2 2]
theorem base_2 (a : Option Addr) (w : World) : Calls Try.prog 112 #[(.agg #[.string ⟨#[48, 49, 50, 51, 52, 53, 54, 55, 56, 57, 65, 66, 67, 68, 69, 70, 71, 72, 73, 74, 75, 76, 77, 78, 79, 80, 81, 82, 83, 84, 85, 86, 87, 88, 89, 90, 32, 33, 35, 38, 40, 41, 43, 45, 47]⟩, .slice a 2 2])] w (Ret (.int .i64 45) w) := by
  go_enter Try.func112, Try.ntmps112
  go_wp2
  go_ret
  first | exact ⟨rfl, Below.refl _ _⟩ | exact ⟨rfl, Below.alloc (Below.refl _ _) (Nat.le_refl _) _⟩
theorem group_2 (a : Option Addr) (w : World) : Calls Try.prog 114 #[(.agg #[.string ⟨#[48, 49, 50, 51, 52, 53, 54, 55, 56, 57, 65, 66, 67, 68, 69, 70, 71, 72, 73, 74, 75, 76, 77, 78, 79, 80, 81, 82, 83, 84, 85, 86, 87, 88, 89, 90, 32, 33, 35, 38, 40, 41, 43, 45, 47]⟩, .slice a 2 2])] w (Ret (.int .i64 2) w) := by
  go_enter Try.func114, Try.ntmps114
  go_wp2
  go_ret
  first | exact ⟨rfl, Below.refl _ _⟩ | exact ⟨rfl, Below.alloc (Below.refl _ _) (Nat.le_refl _) _⟩
theorem character_2 (a : Option Addr) (x : Int) (w : World) (h0 : 0 ≤ x) (h1 : x < 45) : Calls Try.prog 113 #[(.agg #[.string ⟨#[48, 49, 50, 51, 52, 53, 54, 55, 56, 57, 65, 66, 67, 68, 69, 70, 71, 72, 73, 74, 75, 76, 77, 78, 79, 80, 81, 82, 83, 84, 85, 86, 87, 88, 89, 90, 32, 33, 35, 38, 40, 41, 43, 45, 47]⟩, .slice a 2 2]), .int .i64 x] w (Ret (.int .u8 (chr 2 x)) w) := by
  have hr := Lib.hid (set2_chr x h0 h1)
  go_enter Try.func113, Try.ntmps113
  go_wp2
  go_ret
  first | exact ⟨ret_int (hr.out _), Below.refl _ _⟩ | exact ⟨ret_int (hr.out _), Below.alloc (Below.refl _ _) (Nat.le_refl _) _⟩
theorem width_2 (b : Nat) (n : Int) (w : World) (hn : 1 ≤ n ∧ n ≤ 2) (hb : b < w.heap.size) (c0 : w.cell? ⟨b, 0, none⟩ = some (.int .i64 6)) (c1 : w.cell? ⟨b, 1, none⟩ = some (.int .i64 11)) : Calls Try.prog 116 #[.agg #[.string ⟨#[48, 49, 50, 51, 52, 53, 54, 55, 56, 57, 65, 66, 67, 68, 69, 70, 71, 72, 73, 74, 75, 76, 77, 78, 79, 80, 81, 82, 83, 84, 85, 86, 87, 88, 89, 90, 32, 33, 35, 38, 40, 41, 43, 45, 47]⟩, .slice (some ⟨b, 0, none⟩) 2 2], .int .i64 n] w (Ret (.int .i64 (gWidth 2 n)) w) := by
  have hc : n = 1 ∨ n = 2 := by omega
  have d0 := (alloc_cell_old w (.cells #[.string ⟨#[48, 49, 50, 51, 52, 53, 54, 55, 56, 57, 65, 66, 67, 68, 69, 70, 71, 72, 73, 74, 75, 76, 77, 78, 79, 80, 81, 82, 83, 84, 85, 86, 87, 88, 89, 90, 32, 33, 35, 38, 40, 41, 43, 45, 47]⟩, .slice (some ⟨b, 0, none⟩) 2 2] 106) b 0 hb).trans c0
  have d1 := (alloc_cell_old w (.cells #[.string ⟨#[48, 49, 50, 51, 52, 53, 54, 55, 56, 57, 65, 66, 67, 68, 69, 70, 71, 72, 73, 74, 75, 76, 77, 78, 79, 80, 81, 82, 83, 84, 85, 86, 87, 88, 89, 90, 32, 33, 35, 38, 40, 41, 43, 45, 47]⟩, .slice (some ⟨b, 0, none⟩) 2 2] 106) b 1 hb).trans c1
  clear hn
  rcases hc with rfl | rfl
  all_goals
    go_enter Try.func116, Try.ntmps116
    go_wp2
    go_ret
    first | exact ⟨rfl, Below.refl _ _⟩ | exact ⟨rfl, Below.alloc (Below.refl _ _) (Nat.le_refl _) _⟩
def mode3 (a : Option Addr) : Value := .agg #[.string ⟨#[97, 98, 99, 100, 101, 102, 103, 104, 105, 106, 107, 108, 109, 110, 111, 112, 113, 114, 115, 116, 117, 118, 119, 120, 121, 122, 32, 10, 44, 46, 39, 63]⟩, .slice a 1 1]
theorem base_3 (a : Option Addr) (w : World) : Calls Try.prog 112 #[(.agg #[.string ⟨#[97, 98, 99, 100, 101, 102, 103, 104, 105, 106, 107, 108, 109, 110, 111, 112, 113, 114, 115, 116, 117, 118, 119, 120, 121, 122, 32, 10, 44, 46, 39, 63]⟩, .slice a 1 1])] w (Ret (.int .i64 32) w) := by
  go_enter Try.func112, Try.ntmps112
  go_wp2
  go_ret
  first | exact ⟨rfl, Below.refl _ _⟩ | exact ⟨rfl, Below.alloc (Below.refl _ _) (Nat.le_refl _) _⟩
theorem group_3 (a : Option Addr) (w : World) : Calls Try.prog 114 #[(.agg #[.string ⟨#[97, 98, 99, 100, 101, 102, 103, 104, 105, 106, 107, 108, 109, 110, 111, 112, 113, 114, 115, 116, 117, 118, 119, 120, 121, 122, 32, 10, 44, 46, 39, 63]⟩, .slice a 1 1])] w (Ret (.int .i64 1) w) := by
  go_enter Try.func114, Try.ntmps114
  go_wp2
  go_ret
  first | exact ⟨rfl, Below.refl _ _⟩ | exact ⟨rfl, Below.alloc (Below.refl _ _) (Nat.le_refl _) _⟩
theorem character_3 (a : Option Addr) (x : Int) (w : World) (h0 : 0 ≤ x) (h1 : x < 32) : Calls Try.prog 113 #[(.agg #[.string ⟨#[97, 98, 99, 100, 101, 102, 103, 104, 105, 106, 107, 108, 109, 110, 111, 112, 113, 114, 115, 116, 117, 118, 119, 120, 121, 122, 32, 10, 44, 46, 39, 63]⟩, .slice a 1 1]), .int .i64 x] w (Ret (.int .u8 (chr 3 x)) w) := by
  have hr := Lib.hid (set3_chr x h0 h1)
  go_enter Try.func113, Try.ntmps113
  go_wp2
  go_ret
  first | exact ⟨ret_int (hr.out _), Below.refl _ _⟩ | exact ⟨ret_int (hr.out _), Below.alloc (Below.refl _ _) (Nat.le_refl _) _⟩
theorem width_3 (b : Nat) (n : Int) (w : World) (hn : 1 ≤ n ∧ n ≤ 1) (hb : b < w.heap.size) (c0 : w.cell? ⟨b, 0, none⟩ = some (.int .i64 5)) : Calls Try.prog 116 #[.agg #[.string ⟨#[97, 98, 99, 100, 101, 102, 103, 104, 105, 106, 107, 108, 109, 110, 111, 112, 113, 114, 115, 116, 117, 118, 119, 120, 121, 122, 32, 10, 44, 46, 39, 63]⟩, .slice (some ⟨b, 0, none⟩) 1 1], .int .i64 n] w (Ret (.int .i64 (gWidth 3 n)) w) := by
  have hc : n = 1 := by omega
  have d0 := (alloc_cell_old w (.cells #[.string ⟨#[97, 98, 99, 100, 101, 102, 103, 104, 105, 106, 107, 108, 109, 110, 111, 112, 113, 114, 115, 116, 117, 118, 119, 120, 121, 122, 32, 10, 44, 46, 39, 63]⟩, .slice (some ⟨b, 0, none⟩) 1 1] 106) b 0 hb).trans c0
  clear hn
  subst hc
  all_goals
    go_enter Try.func116, Try.ntmps116
    go_wp2
    go_ret
    first | exact ⟨rfl, Below.refl _ _⟩ | exact ⟨rfl, Below.alloc (Below.refl _ _) (Nat.le_refl _) _⟩
end Go.Proofs.Ytnajjofaijpciaa
