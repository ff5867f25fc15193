/-
  Contract: the text that the reference draws for a mode (some bytes).
  Conditions: codes of at most 4096 bytes.
-/
import Derived.Test.YtnajjofaijpciaaDraw
import Derived.Test.YtnajjofaijpciaaMg31
import Derived.Test.YtnajjofaijpciaaMg14
set_option linter.unusedVariables false
namespace Go.Proofs.Ytnajjofaijpciaa
open Go.RowKit Go.G8
/-- A text drawn, of at most M bytes. -/
def DrawnT (B S M : Nat) (w : World) (e : Ending) (w' : World) : Prop :=
  ∃ s : ByteArray, e = .returned (.string s) ∧ s.size ≤ M ∧ Src B w' S ∧ w.grownBy w' (some S)
set_option maxHeartbeats 1000000 in
set_option maxRecDepth 20000 in
theorem l09DrawText_any (B S M : Nat) (mode : Int) (w : World) (h : Src B w S) (hmd : 1 ≤ mode ∧ mode ≤ 4) (hm : M ≤ 1000) :
    Calls Try.prog 84 #[.pointer (some ⟨S, 0, none⟩), .int .i64 mode, .int .i64 M] w (DrawnT B S M w) := by
  obtain ⟨i0, hi, hz0, hz1, hz2⟩ := info_parts info_uint8
  obtain ⟨hmd1, hmd2⟩ := hmd
  have e1 : IntKind.i64.wrap ((M : Int) + 1) = (M : Int) + 1 := IntWalk.i64_in _ (by omega)
  have hSw := (Src_le h).2.2
  have hBw := (Src_le h).2.1
  have hO0 : Ow .u8 5 w.heap.size (w.alloc (.cells #[] 5)) (some ⟨w.heap.size, 0, none⟩) 0 0 [] := Ow.empty _ _ _ w (Nat.le_refl _)
  have hal : Below w.heap.size w (w.alloc (.cells #[] 5)) := Below.alloc (Below.refl _ _) (Nat.le_refl _) _
  have HS0 := Lib.hid (src_keep h hal)
  have HK0 := Lib.hid (keeps_below (S := S) hal)
  clear hal h
  go_enter Try.func84, Try.ntmps84
  go_wp2_with fail
  refine (l01Next_any _ S ((M : Int) + 1) _ HS0.out (by omega)).mono ?_
  rintro e w1 ⟨r, rfl, hr0, hr1, hS1, hg1⟩
  obtain ⟨R, rfl⟩ := Int.eq_ofNat_of_zero_le hr0
  have hR : R ≤ M := by omega
  replace hO0 := ow_apart hO0 hSw hg1
  have hK1 := keeps_trans HK0.out hg1
  clear hg1 hr0 hr1 e1 HS0 HK0
  go_wp2_with fail
  go_loopw [7, 8] (fun l k wr => ∃ (a' : Option Addr) (n' c' : Nat) (ys : List Int) (m : Nat), m ≤ M ∧ k = .int .i64 m ∧ l = .slice a' n' c' ∧ n' + m ≤ M ∧ Ow .u8 5 w.heap.size wr a' n' c' ys ∧ Src B wr S ∧ w.grownBy wr (some S)) (fun _ k _ => (intOf k).toNat)
  case atStart => exact ⟨_, 0, 0, [], R, hR, rfl, rfl, by omega, hO0, hS1, hK1⟩
  case round =>
    clear hO0 hS1 hK1
    obtain ⟨a', n', c', ys, m, hmM, rfl, rfl, hn', hown, hS, hK⟩ := hrel
    have hBr := hK.size
    rcases m with _ | m
    · have hcv := conv_str (P := Try.prog) hown 49 9 5 Try.underlying49 Try.underlying5 Try.underlying9
      have hl := hown.len
      go_wp2_with fail
      go_ret
      exact ⟨_, rfl, by rw [strOfNums_size]; omega, hS, hK⟩
    · have e1 : IntKind.i64.wrap (((m + 1 : Nat) : Int) - 1) = (m : Int) := (IntWalk.i64_in _ (by omega)).trans (by omega)
      have e2 : decide ((0 : Int) < ((m + 1 : Nat) : Int)) = true := by simp
      by_cases h4 : mode = 4
      · have h4q : (mode == 4) = true := by simp [h4]
        clear h4
        go_wp2_with fail
        refine (l01Next_any _ S 256 _ hS (by decide)).mono ?_
        rintro e w2 ⟨r, rfl, hr0, hr1, hS2, hg2⟩
        have hown2 := ow_apart hown hSw hg2
        have hK2 := keeps_trans hK hg2
        have hBr2 := hK2.size
        have hr2 : r < 256 := by omega
        clear hg2 hS hK hown hr1
        go_wp2_with (at_builtin; refine wpList_push .u8 _ rfl _ _ 49 rfl w.heap.size 5 _ i0 1 Try.underlying49 hi hz0 hz1 hz2 (by omega) a' n' c' ys _ rfl hown2 rfl (by omega) (by omega) ?_; intro a3 n3 c3 w3 hown3 hbel3)
        go_roundw
        case rel => exact ⟨a3, n3, c3, _, m, by omega, by go_num, rfl, by have e1 := hown3.len; have e2 := hown2.len; simp at e1; omega, hown3, src_under hS2 hbel3 hSw hBw, keeps_under hK2 hbel3⟩
        case measure => simp [intOf]
      · have h4q : (mode == 4) = false := by rw [beq_eq_false_iff_ne]; exact h4
        have hm3 : 1 ≤ mode ∧ mode ≤ 3 := by omega
        clear h4
        go_wp2_with fail
        refine (l09Set_any mode _ hm3).mono ?_
        rintro e w2 ⟨T, rfl, hT, rfl⟩
        obtain ⟨hT1, hT2⟩ := hT
        go_wp2_with fail
        refine (l01Next_any _ S (T.size : Int) _ hS (by omega)).mono ?_
        rintro e w3 ⟨r, rfl, hr0, hr1, hS2, hg2⟩
        obtain ⟨k, rfl⟩ := Int.eq_ofNat_of_zero_le hr0
        have hk : k < T.size := by omega
        obtain ⟨x, hsx, hx, hx1, hx2⟩ := str_at T k hk
        have hown2 := ow_apart hown hSw hg2
        have hK2 := keeps_trans hK hg2
        have hBr2 := hK2.size
        clear hg2 hS hK hown hr1
        go_wp2_with (at_builtin; refine wpList_push .u8 _ rfl _ _ 49 rfl w.heap.size 5 _ i0 1 Try.underlying49 hi hz0 hz1 hz2 (by omega) a' n' c' ys _ rfl hown2 rfl (by omega) (by omega) ?_; intro a3 n3 c3 w3 hown3 hbel3)
        go_roundw
        case rel => exact ⟨a3, n3, c3, _, m, by omega, by go_num, rfl, by have e1 := hown3.len; have e2 := hown2.len; simp at e1; omega, hown3, src_under hS2 hbel3 hSw hBw, keeps_under hK2 hbel3⟩
        case measure => simp [intOf]
end Go.Proofs.Ytnajjofaijpciaa
