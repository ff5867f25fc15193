/-
  Contracts: what the reference draws for the laws of bit lists.
  Conditions: codes of at most 4096 bytes.
-/
import Derived.Test.YtagdkaigdehohaaDrawB
import Derived.Test.YtagdkaigdehohaaL01e
set_option linter.unusedVariables false
namespace Go.Proofs.Ytagdkaigdehohaa
open Go.RowKit Go.G8
/-- A list and two numbers. -/
def DrawnL (w : World) (e : Ending) (w' : World) : Prop :=
  ∃ (a : Option Addr) (n c : Nat) (xs : List Int) (x y : Int), e = .returned (.tuple #[.slice a n c, .int .i64 x, .int .i64 y]) ∧ n ≤ 9000 ∧ (∀ z ∈ xs, fits .i64 z) ∧ (-9223372036854775808 ≤ x ∧ x ≤ 9223372036854775807) ∧ (-9223372036854775808 ≤ y ∧ y ≤ 9223372036854775807) ∧ Ow .i64 2 w.heap.size w' a n c xs ∧ Below w.heap.size w w'
set_option maxHeartbeats 1000000 in
set_option maxRecDepth 20000 in
theorem drawAppendBits_any (a : Option Addr) (n c : Nat) (xs : List Int) (w : World) (h : Rd .u8 w a n xs) (hn : n ≤ 4096) :
    Calls Try.prog 44 #[.slice a n c] w (DrawnL w) := by
  go_enter Try.func44, Try.ntmps44
  go_wp2_with fail
  refine (l01From_any a n c xs _ h hn).mono ?_
  rintro e w1 ⟨S, rfl, hS, hb1⟩
  clear h
  go_wp2_with fail
  refine (l01DrawBits_any _ S 20 _ hS (by decide)).mono ?_
  rintro e w2 ⟨a2, n2, c2, ys, rfl, hn2, hfy, ho2, hS2, hg2⟩
  have hSw1 := (Src_le hS).2.2
  have hb2 := hb1.trans (below_src hS hg2)
  have hD := hb1.size
  clear hb1 hS hg2
  go_wp2_with fail
  refine (l01Next_any _ S 12 _ hS2 (by decide)).mono ?_
  rintro e w3 ⟨wd, rfl, hw0, hw1, hS3, hg3⟩
  obtain ⟨d, rfl⟩ := Int.eq_ofNat_of_zero_le hw0
  have hd : d < 12 := by omega
  obtain ⟨hp1, hp2⟩ := two_pow_bd d (by omega)
  have ho3 := ow_apart ho2 hSw1 hg3
  have hb3 := hb2.trans (below_src hS2 hg3)
  clear hw0 hw1 ho2 hb2 hS2 hg3
  go_wp2_with fail
  refine (l01Next_any _ S (2 ^ d) _ hS3 (by omega)).mono ?_
  rintro e w4 ⟨v, rfl, hv0, hv1, hS4, hg4⟩
  have hv2 : -9223372036854775808 ≤ v ∧ v ≤ 9223372036854775807 := by omega
  have ho4 := ow_apart ho3 hSw1 hg4
  have hb4 := hb3.trans (below_src hS3 hg4)
  clear hv0 hv1 hS3 hg4 ho3 hb3
  go_wp2_with fail
  refine (l01Next_any _ S 16 _ hS4 (by decide)).mono ?_
  rintro e w5 ⟨r, rfl, hr0, hr1, hS5, hg5⟩
  have hown5 := ow_apart ho4 hSw1 hg5
  have hb5 := hb4.trans (below_src hS4 hg5)
  have hSD := hSw1
  clear hS4 hg5 ho4 hb4 hSw1
  have hdw : -9223372036854775808 ≤ (d : Int) ∧ (d : Int) ≤ 9223372036854775807 := by omega
  by_cases hz : r = 0
  · subst hz
    clear hr0 hr1
    skip
    have ho := Ow.lit (K := .i64) (E := 2) (xs := [-1, 32, 33, 1]) (B := w5.heap.size) w5 (Nat.le_refl _) (by simp)
    have hal : Below w5.heap.size w5 (w5.alloc (.cells (ints .i64 [-1, 32, 33, 1]).toArray 2)) := Below.alloc (Below.refl _ _) (Nat.le_refl _) _
    have hS6 := src_keep hS5 hal
    have hown6 := hown5.keep hal
    have hb6 := bt hb5 hal
    have hSw5 := (Src_le hS5).2.2
    clear hal hS5 hb5 hown5
    go_wp2_with fail
    refine (l01Next_any _ S 4 _ hS6 (by decide)).mono ?_
    rintro e w7 ⟨r, rfl, hr0, hr1, hS7, hg7⟩
    obtain ⟨k, rfl⟩ := Int.eq_ofNat_of_zero_le hr0
    have hk : k < 4 := by omega
    have ho7 := ow_apart ho (by omega) hg7
    have hown7 := ow_apart hown6 hSD hg7
    have hb7 := hb6.trans (below_src hS6 hg7)
    obtain ⟨x, hx⟩ : ∃ x, ([-1, 32, 33, 1] : List Int)[k]? = some x := ⟨_, List.getElem?_eq_getElem (by simpa using hk)⟩
    have hcell := ho7.cell hx
    have hxm := List.mem_of_getElem? hx
    have hxf : -9223372036854775808 ≤ x ∧ x ≤ 9223372036854775807 := by
      simp only [List.mem_cons, List.not_mem_nil, or_false] at hxm
      omega
    have b1 : (0 : Int) ≤ (k : Int) := by omega
    have b2 : (k : Int) < 4 := by omega
    clear hg7 hS6 hb6 hown6 ho7 ho hr0 hr1 hx hxm
    go_wp2_with fail
    exact bodyPost_ret (v := .tuple #[.slice a2 n2 c2, .int .i64 v, .int .i64 x]) (by simp [results, Try.results44, go_sem]) rfl ⟨_, _, _, _, _, _, rfl, hn2, hfy, hv2, hxf, hown7.more hD, hb7⟩
  · by_cases h1 : r = 1
    · subst h1
      clear hz hr0 hr1
      have z1 : IntKind.i64.wrap ((2 : Int) ^ d - 1) = 2 ^ d - 1 := IntWalk.i64_in _ (by omega)
      have ho := Ow.lit (K := .i64) (E := 2) (xs := [-1, 2 ^ d, 2 ^ d - 1]) (B := w5.heap.size) w5 (Nat.le_refl _) (by simp)
      have hal : Below w5.heap.size w5 (w5.alloc (.cells (ints .i64 [-1, 2 ^ d, 2 ^ d - 1]).toArray 2)) := Below.alloc (Below.refl _ _) (Nat.le_refl _) _
      have hS6 := src_keep hS5 hal
      have hown6 := hown5.keep hal
      have hb6 := bt hb5 hal
      have hSw5 := (Src_le hS5).2.2
      clear hal hS5 hb5 hown5
      go_wp2_with fail
      refine (l01Next_any _ S 3 _ hS6 (by decide)).mono ?_
      rintro e w7 ⟨r, rfl, hr0, hr1, hS7, hg7⟩
      obtain ⟨k, rfl⟩ := Int.eq_ofNat_of_zero_le hr0
      have hk : k < 3 := by omega
      have ho7 := ow_apart ho (by omega) hg7
      have hown7 := ow_apart hown6 hSD hg7
      have hb7 := hb6.trans (below_src hS6 hg7)
      obtain ⟨x, hx⟩ : ∃ x, ([-1, 2 ^ d, 2 ^ d - 1] : List Int)[k]? = some x := ⟨_, List.getElem?_eq_getElem (by simpa using hk)⟩
      have hcell := ho7.cell hx
      have hxm := List.mem_of_getElem? hx
      have hxf : -9223372036854775808 ≤ x ∧ x ≤ 9223372036854775807 := by
        simp only [List.mem_cons, List.not_mem_nil, or_false] at hxm
        omega
      have b1 : (0 : Int) ≤ (k : Int) := by omega
      have b2 : (k : Int) < 3 := by omega
      clear hg7 hS6 hb6 hown6 ho7 ho hr0 hr1 hx hxm
      go_wp2_with fail
      exact bodyPost_ret (v := .tuple #[.slice a2 n2 c2, .int .i64 x, .int .i64 d]) (by simp [results, Try.results44, go_sem]) rfl ⟨_, _, _, _, _, _, rfl, hn2, hfy, hxf, hdw, hown7.more hD, hb7⟩
    · have d0 : (r == 0) = false := by rw [beq_eq_false_iff_ne]; exact hz
      have d1 : (r == 1) = false := by rw [beq_eq_false_iff_ne]; exact h1
      clear hz h1 hr0 hr1
      go_wp2_with fail
      exact bodyPost_ret (v := .tuple #[.slice a2 n2 c2, .int .i64 v, .int .i64 d]) (by simp [results, Try.results44, go_sem]) rfl ⟨_, _, _, _, _, _, rfl, hn2, hfy, hv2, hdw, hown5.more hD, hb5⟩
end Go.Proofs.Ytagdkaigdehohaa
