/-
  Contracts: what the reference draws for the distance of bit lists.
  Conditions: codes of at most 4096 bytes.
-/
import Derived.Test.YtagdkaigdehohaaDrawB
import Derived.Test.YtagdkaigdehohaaL01e
set_option linter.unusedVariables false
namespace Go.Proofs.Ytagdkaigdehohaa
open Go.RowKit Go.G8
/-- Two lists. -/
def DrawnP (w : World) (e : Ending) (w' : World) : Prop :=
  ∃ (a : Option Addr) (n c : Nat) (xs : List Int) (b : Option Addr) (m d : Nat) (ys : List Int), e = .returned (.tuple #[.slice a n c, .slice b m d]) ∧ n ≤ 9000 ∧ m ≤ 9000 ∧ (∀ z ∈ xs, fits .i64 z) ∧ (∀ z ∈ ys, fits .i64 z) ∧ Ow .i64 2 w.heap.size w' a n c xs ∧ Ow .i64 2 w.heap.size w' b m d ys ∧ Below w.heap.size w w'
set_option maxHeartbeats 1000000 in
set_option maxRecDepth 20000 in
theorem drawBitDistance_any (a : Option Addr) (n c : Nat) (xs : List Int) (w : World) (h : Rd .u8 w a n xs) (hn : n ≤ 4096) :
    Calls Try.prog 48 #[.slice a n c] w (DrawnP w) := by
  go_enter Try.func48, Try.ntmps48
  go_wp2_with fail
  refine (l01From_any a n c xs _ h hn).mono ?_
  rintro e w1 ⟨S, rfl, hS, hb1⟩
  clear h
  go_wp2_with fail
  refine (l01DrawBits_any _ S 20 _ hS (by decide)).mono ?_
  rintro e w2 ⟨a2, n2, c2, ys, rfl, hn2, hfy, ho2, hS2, hg2⟩
  have hSw1 := (Src_le hS).2.2
  have hb2 := hb1.trans (below_src hS hg2)
  have hD := hb1.size
  clear hb1 hS hg2
  go_wp2_with fail
  refine (l01Next_any _ S 6 _ hS2 (by decide)).mono ?_
  rintro e w3 ⟨r, rfl, hr0, hr1, hS3, hg3⟩
  have ho3 := ow_apart ho2 hSw1 hg3
  have hb3 := hb2.trans (below_src hS2 hg3)
  have hDw := Nat.le_trans (Src_le hS2).2.2 hg3.size
  clear ho2 hb2 hS2 hg3
  by_cases hz : r = 0
  · subst hz
    clear hr0 hr1
    go_wp2_with fail
    refine (l01DrawBits_any _ S 20 _ hS3 (by decide)).mono ?_
    rintro e w4 ⟨a4, n4, c4, zs, rfl, hn4, hfz, ho4, hS4, hg4⟩
    have hb4 := hb3.trans (below_src hS3 hg4)
    have hB3 := hb3.size
    replace ho3 := ow_apart ho3 hSw1 hg4
    go_wp2_with fail
    go_ret2
    exact ⟨_, _, _, _, _, _, _, _, rfl, hn2, hn4, sm_fits hfy, sm_fits hfz, ho3.more hD, ho4.more hB3, hb4⟩
  · have d0 : (r == 0) = false := by rw [beq_eq_false_iff_ne]; exact hz
    clear hz hr0 hr1
    have hR3 := ho3.rd (sm_fits hfy)
    go_wp2_with fail
    refine (l01Own_any a2 n2 c2 ys _ hR3 (by omega)).mono ?_
    rintro e w4 ⟨a4, n4, c4, rfl, ho4, hb4⟩
    have hS4 := src_keep hS3 hb4
    have ho3' := ho3.keep hb4
    have hB4 := bt hb3 hb4
    have hS3w := (Src_le hS3).2.2
    have hn4 : n4 ≤ 9000 := by have e1 := ho4.len; have e2 := ho3.len; omega
    have hap := apart_new ho3 ho4
    have hD3 := hb3.size
    clear hb4 hS3 hR3 hb3 ho3
    go_wp2_with fail
    go_loopw [7] (fun i wr => ∃ (k : Nat) (zs : List Int), k ≤ n4 ∧ k ≤ 100 ∧ i = .int .i64 k ∧ (∀ x ∈ zs, -(10 + (k : Int)) ≤ x ∧ x ≤ 10 + k) ∧ Ow .i64 2 w3.heap.size wr a4 n4 c4 zs ∧ Ow .i64 2 w1.heap.size wr a2 n2 c2 ys ∧ Src w.heap.size wr S ∧ Below w.heap.size w wr) (fun i _ => n4 - (intOf i).toNat)
    case atStart => exact ⟨0, ys, Nat.zero_le _, by omega, rfl, fun x hx => by have := hfy x hx; omega, ho4, ho3', hS4, hB4⟩
    case round =>
      clear ho4 ho3' hS4 hB4
      obtain ⟨k, zs, hk, hk1, rfl, hz, ho4, ho3, hS4, hB4⟩ := hrel
      have hlz := ho4.len
      by_cases hlt : k < n4 ∧ k < 100
      · obtain ⟨hl1, hl2⟩ := hlt
        have b1 : (0 : Int) ≤ (k : Int) := by omega
        have b2 : (k : Int) < (n4 : Int) := by omega
        have b3 : (k : Int) < 100 := by omega
        obtain ⟨x, hx⟩ : ∃ x, zs[k]? = some x := ⟨_, List.getElem?_eq_getElem (by omega)⟩
        have hxb := hz x (List.mem_of_getElem? hx)
        have hSw4 := (Src_le hS4).2.2
        go_wp2_with fail
        refine (l01Next_any _ S 3 _ hS4 (by decide)).mono ?_
        rintro e w5 ⟨r, rfl, hr0, hr1, hS5, hg5⟩
        have ho5 := ow_apart ho4 hS3w hg5
        have ho6 := ow_apart ho3 hSw1 hg5
        have hB5 := hB4.trans (below_src hS4 hg5)
        have hB5s := hB5.size
        clear ho4 ho3 hS4 hB4 hg5
        by_cases hz0 : r = 0
        · subst hz0
          clear hr0 hr1
          obtain ⟨g, rfl, hg1, hg2⟩ := ho5.form (by omega)
          have hcell := ho5.cell hx
          have hfr := ho5.free k
          have hst := Lib.hid (ho5.set_ k (1 - x))
          have hgr := Lib.hid (ho5.grow k (.int .i64 (1 - x)))
          go_wp2_with fail
          go_roundw
          case rel => exact ⟨k + 1, zs.set k (1 - x), by omega, by omega, by go_num, fun y hy => by
            rcases List.mem_or_eq_of_mem_set hy with hy | rfl
            · have := hz y hy; omega
            · omega, hst.out, Ow.sep (a' := some ⟨g, 0, none⟩) ho6 hgr.out (fun q h1 h2 => hap q h1 h2), src_sep hS5 hgr.out (by omega) (by omega), hB5.grown hgr.out (by omega) (fun q e => by injection e with e; omega)⟩
          case measure => simp [intOf]; omega
        · have d0 : (r == 0) = false := by rw [beq_eq_false_iff_ne]; exact hz0
          clear hz0 hr0 hr1
          go_wp2_with fail
          go_roundw
          case rel => exact ⟨k + 1, zs, by omega, by omega, by go_num, fun y hy => by have := hz y hy; omega, ho5, ho6, hS5, hB5⟩
          case measure => simp [intOf]; omega
      · have hend : k = n4 ∨ (k < n4 ∧ k = 100) := by omega
        clear hlt
        rcases hend with rfl | ⟨hl1, rfl⟩
        all_goals
          go_wp2_with fail
          go_ret2
          exact ⟨_, _, _, _, _, _, _, _, rfl, hn2, hn4, sm_fits hfy, fun z h => fits_in (by have := hz z h; omega), ho3.more hD, ho4.more (by omega), hB4⟩
end Go.Proofs.Ytagdkaigdehohaa
