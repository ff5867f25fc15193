/-
  Contracts: the strings and bits that the reference draws for the law of texts.
  Conditions: codes of at most 4096 bytes.
-/
import Derived.Test.YtagdkaigdehohaaDrawB
import Derived.Test.YtagdkaigdehohaaL01f
import Derived.Test.YtagdkaigdehohaaL01g
set_option linter.unusedVariables false
namespace Go.Proofs.Ytagdkaigdehohaa
open Go.RowKit Go.G8
set_option maxHeartbeats 1000000 in
set_option maxRecDepth 20000 in
theorem l01DrawString_any (B S : Nat) (most : Int) (w : World) (h : Src B w S) (hm : 0 ≤ most ∧ most ≤ 1000) :
    Calls Try.prog 93 #[.pointer (some ⟨S, 0, none⟩), .int .i64 most] w (fun e w' => ∃ s : ByteArray, e = .returned (.string s) ∧ s.size ≤ 1001 ∧ Src B w' S ∧ w.grownBy w' (some S)) := by
  obtain ⟨i0, hi, hz0, hz1, hz2⟩ := info_parts info_uint8
  obtain ⟨hm1, hm2⟩ := hm
  have e1 : IntKind.i64.wrap (most + 1) = most + 1 := IntWalk.i64_in _ (by omega)
  have hSw := (Src_le h).2.2
  have hBw := (Src_le h).2.1
  have hO0 : Ow .u8 5 w.heap.size (w.alloc (.cells #[] 5)) (some ⟨w.heap.size, 0, none⟩) 0 0 [] := Ow.empty _ _ _ w (Nat.le_refl _)
  have hal : Below w.heap.size w (w.alloc (.cells #[] 5)) := Below.alloc (Below.refl _ _) (Nat.le_refl _) _
  have HS0 := Lib.hid (src_keep h hal)
  have HK0 := Lib.hid (keeps_below (S := S) hal)
  clear hal h
  go_enter Try.func93, Try.ntmps93
  go_wp2_with fail
  refine (l01Next_any _ S (most + 1) _ HS0.out (by omega)).mono ?_
  rintro e w1 ⟨r, rfl, hr0, hr1, hS1, hg1⟩
  obtain ⟨R, rfl⟩ := Int.eq_ofNat_of_zero_le hr0
  have hR : R ≤ 1001 := by omega
  replace hO0 := ow_apart hO0 hSw hg1
  have hK1 := keeps_trans HK0.out hg1
  clear hg1 hr0 hr1 e1 HS0 HK0 hm1 hm2
  go_wp2_with fail
  go_loopw [5, 6] (fun l k wr => ∃ (a' : Option Addr) (n' c' : Nat) (ys : List Int) (m : Nat), m ≤ 1001 ∧ k = .int .i64 m ∧ l = .slice a' n' c' ∧ n' + m ≤ 1001 ∧ Ow .u8 5 w.heap.size wr a' n' c' ys ∧ Src B wr S ∧ w.grownBy wr (some S)) (fun _ k _ => (intOf k).toNat)
  case atStart => exact ⟨_, 0, 0, [], R, hR, rfl, rfl, by omega, hO0, hS1, hK1⟩
  case round =>
    clear hO0 hS1 hK1
    obtain ⟨a', n', c', ys, m, hm, rfl, rfl, hn', hown, hS, hK⟩ := hrel
    have hBr := hK.size
    rcases m with _ | m
    · have hcv := conv_str (P := Try.prog) hown 52 9 5 Try.underlying52 Try.underlying5 Try.underlying9
      have hl := hown.len
      go_wp2_with fail
      go_ret
      exact ⟨_, rfl, by rw [strOfNums_size]; omega, hS, hK⟩
    · have e1 : IntKind.i64.wrap (((m + 1 : Nat) : Int) - 1) = (m : Int) := (IntWalk.i64_in _ (by omega)).trans (by omega)
      have e2 : decide ((0 : Int) < ((m + 1 : Nat) : Int)) = true := by simp
      go_wp2_with fail
      refine (l01Next_any _ S 256 _ hS (by decide)).mono ?_
      rintro e w2 ⟨r, rfl, hr0, hr1, hS2, hg2⟩
      have hown2 := ow_apart hown hSw hg2
      have hK2 := keeps_trans hK hg2
      have hBr2 := hK2.size
      have hr2 : r < 256 := by omega
      clear hg2 hS hK hown hr1
      go_wp2_with (at_builtin; refine wpList_push .u8 _ rfl _ _ 52 rfl w.heap.size 5 _ i0 1 Try.underlying52 hi hz0 hz1 hz2 (by omega) a' n' c' ys _ rfl hown2 rfl (by omega) (by omega) ?_; intro a3 n3 c3 w3 hown3 hbel3)
      go_roundw
      case rel => exact ⟨a3, n3, c3, _, m, by omega, by go_num, rfl, by have e1 := hown3.len; have e2 := hown2.len; simp at e1; omega, hown3, src_under hS2 hbel3 hSw hBw, keeps_under hK2 hbel3⟩
      case measure => simp [intOf]
def DrawnS (w : World) (e : Ending) (w' : World) : Prop :=
  ∃ (a : Option Addr) (n c : Nat) (xs : List Int), e = .returned (.slice a n c) ∧ n ≤ 9000 ∧ (∀ z ∈ xs, fits .i64 z) ∧ Ow .i64 2 w.heap.size w' a n c xs ∧ Below w.heap.size w w'
set_option maxHeartbeats 1000000 in
set_option maxRecDepth 20000 in
theorem drawStringOfBits_any (a : Option Addr) (n c : Nat) (xs : List Int) (w : World) (h : Rd .u8 w a n xs) (hn : n ≤ 4096) :
    Calls Try.prog 52 #[.slice a n c] w (DrawnS w) := by
  go_enter Try.func52, Try.ntmps52
  go_wp2_with fail
  refine (l01From_any a n c xs _ h hn).mono ?_
  rintro e w1 ⟨S, rfl, hS, hb1⟩
  clear h
  go_wp2_with fail
  refine (l01Next_any _ S 4 _ hS (by decide)).mono ?_
  rintro e w2 ⟨r, rfl, hr0, hr1, hS2, hg2⟩
  have hb2 := hb1.trans (below_src hS hg2)
  clear hb1 hS hg2
  by_cases hz : r = 0
  · subst hz
    clear hr0 hr1
    go_wp2_with fail
    refine (l01DrawBits_any _ S 20 _ hS2 (by decide)).mono ?_
    rintro e w4 ⟨a4, n4, c4, zs, rfl, hn4, hfz, ho4, hS4, hg4⟩
    have hb4 := hb2.trans (below_src hS2 hg4)
    have hB2 := hb2.size
    go_wp2_with fail
    go_ret
    exact ⟨_, _, _, _, rfl, hn4, sm_fits hfz, ho4.more hB2, hb4⟩
  · have d0 : (r == 0) = false := by rw [beq_eq_false_iff_ne]; exact hz
    clear hz hr0 hr1
    go_wp2_with fail
    refine (l01DrawString_any _ S 4 _ hS2 (by decide)).mono ?_
    rintro e w3 ⟨s, rfl, hs, hS3, hg3⟩
    have hb3 := hb2.trans (below_src hS2 hg3)
    clear hb2 hS2 hg3
    go_wp2_with fail
    refine (l01Bits_any s _ (by omega)).mono ?_
    rintro e w4 ⟨a4, n4, c4, rfl, ho4, hb4⟩
    have hB3 := hb3.size
    have hb5 := bt hb3 hb4
    have hl := ho4.len
    rw [bytesBits_length, strI_length] at hl
    go_wp2_with fail
    go_ret
    exact ⟨_, _, _, _, rfl, by omega, fun z hz => fits_in (by have := bytesBits_bit _ z hz; omega), ho4.more hB3, hb5⟩
end Go.Proofs.Ytagdkaigdehohaa
