/-
  Contracts: the bits that the reference draws.
  Conditions: codes of at most 4096 bytes.
-/
import Derived.Test.YtagdkaigdehohaaDrawS
import Derived.Test.YtagdkaigdehohaaL01d
set_option linter.unusedVariables false
namespace Go.Proofs.Ytagdkaigdehohaa
open Go.RowKit Go.G8
/-- Numbers from -1 to 2. -/
def sm (xs : List Int) : Prop := ∀ x ∈ xs, -1 ≤ x ∧ x ≤ 2
theorem sm_fits {xs : List Int} (h : sm xs) : ∀ x ∈ xs, fits .i64 x := fun x hx => by
  have := h x hx
  show -9223372036854775808 ≤ x ∧ x ≤ 9223372036854775807
  omega
theorem sm_snoc {xs : List Int} {x : Int} (h : sm xs) (hx : -1 ≤ x ∧ x ≤ 2) : sm (xs ++ [x]) := by
  intro y hy
  rcases List.mem_append.1 hy with hy | hy
  · exact h y hy
  · rw [List.mem_singleton.1 hy]; exact hx
/-- A list of numbers of the call's own, from block w.heap.size on; the source is kept. -/
def DrawnB (B S : Nat) (w : World) (e : Ending) (w' : World) : Prop :=
  ∃ (a : Option Addr) (n c : Nat) (xs : List Int), e = .returned (.slice a n c) ∧ n ≤ 9000 ∧ sm xs ∧ Ow .i64 2 w.heap.size w' a n c xs ∧ Src B w' S ∧ w.grownBy w' (some S)
theorem src_under {B D S : Nat} {w w' : World} (h : Src B w S) (hb : Below D w w') (hS : S < D) (hB : B ≤ D) : Src B w' S := by
  obtain ⟨a, m, c, xs, at_, seed, hm, hBS, hSw, hBw, hat, hv, c0, c1, c2, hfz, hrd, hfits⟩ := h
  have := hb.size
  exact ⟨a, m, c, xs, at_, seed, hm, hBS, by omega, by omega, hat, hv, (hb.cell (p := ⟨S, 0, none⟩) hS).trans c0, (hb.cell (p := ⟨S, 1, none⟩) hS).trans c1, (hb.cell (p := ⟨S, 2, none⟩) hS).trans c2, fun i => (hb.frozen (p := ⟨S, i, none⟩) hS).trans (hfz i), hrd.keep (fun p hp => hb.cell (by omega)), hfits⟩
theorem keeps_under {S : Nat} {w w1 w2 : World} (h1 : w.grownBy w1 (some S)) (h2 : Below w.heap.size w1 w2) : w.grownBy w2 (some S) :=
  ⟨h2.os.trans h1.os, h2.tape.trans h1.tape, h2.output.trans h1.output, Nat.le_trans h1.size h2.size, fun q hq hne => (h2.block q hq).trans (h1.block q hq hne)⟩
theorem ow_apart {K : IntKind} {E D n c S : Nat} {w w' : World} {a : Option Addr} {xs : List Int} (h : Ow K E D w a n c xs) (hS : S < D) (hg : w.grownBy w' (some S)) : Ow K E D w' a n c xs :=
  h.kept hg (fun g e => by injection e with e; omega)
theorem fits_in {x : Int} (h : -9223372036854775808 ≤ x ∧ x ≤ 9223372036854775807) : fits .i64 x := h
set_option maxHeartbeats 1000000 in
set_option maxRecDepth 20000 in
theorem l01DrawBits_any (B S : Nat) (most : Int) (w : World) (h : Src B w S) (hm : 0 ≤ most ∧ most ≤ 1000) :
    Calls Try.prog 82 #[.pointer (some ⟨S, 0, none⟩), .int .i64 most] w (DrawnB B S w) := by
  obtain ⟨i0, hi, hz0, hz1, hz2⟩ := info_parts info_int64
  obtain ⟨hm1, hm2⟩ := hm
  have e1 : IntKind.i64.wrap (most + 1) = most + 1 := IntWalk.i64_in _ (by omega)
  go_enter Try.func82, Try.ntmps82
  have hSw := (Src_le h).2.2
  have hBw := (Src_le h).2.1
  have hO0 : Ow .i64 2 w.heap.size (w.alloc (.cells #[] 2)) (some ⟨w.heap.size, 0, none⟩) 0 0 [] := Ow.empty _ _ _ w (Nat.le_refl _)
  have hal : Below w.heap.size w (w.alloc (.cells #[] 2)) := Below.alloc (Below.refl _ _) (Nat.le_refl _) _
  have HS0 := Lib.hid (src_keep h hal)
  have HK0 := Lib.hid (keeps_below (S := S) hal)
  clear hal h
  go_wp2_with fail
  refine (l01Next_any _ S (most + 1) _ HS0.out (by omega)).mono ?_
  rintro e w1 ⟨r, rfl, hr0, hr1, hS1, hg1⟩
  obtain ⟨R, rfl⟩ := Int.eq_ofNat_of_zero_le hr0
  have hR : R ≤ 1001 := by omega
  replace hO0 := ow_apart hO0 hSw hg1
  have hK1 := keeps_trans HK0.out hg1
  clear hg1 hr0 hr1 e1 HS0 HK0 hm1 hm2
  go_wp2_with fail
  go_loopw [5, 6] (fun l k wr => ∃ (a' : Option Addr) (n' c' : Nat) (ys : List Int) (m : Nat), m ≤ 1001 ∧ k = .int .i64 m ∧ l = .slice a' n' c' ∧ n' + m ≤ 1001 ∧ sm ys ∧ Ow .i64 2 w.heap.size wr a' n' c' ys ∧ Src B wr S ∧ w.grownBy wr (some S)) (fun _ k _ => (intOf k).toNat)
  case atStart => exact ⟨_, 0, 0, [], R, hR, rfl, rfl, by omega, (fun x hx => by simp at hx), hO0, hS1, hK1⟩
  case round =>
    clear hO0 hS1 hK1
    obtain ⟨a', n', c', ys, m, hm, rfl, rfl, hn', hfy, hown, hS, hK⟩ := hrel
    have hBr := hK.size
    rcases m with _ | m
    · have hSw1 := (Src_le hS).2.2
      go_wp2_with fail
      refine (l01Next_any _ S 40 _ hS (by decide)).mono ?_
      rintro e w2 ⟨r, rfl, hr0, hr1, hS2, hg2⟩
      have hown2 := ow_apart hown hSw hg2
      have hK2 := keeps_trans hK hg2
      have hBr2 := hK2.size
      have hSw2 := (Src_le hS2).2.2
      have hn2 := hown2.len
      clear hg2 hS hK hown
      by_cases hz : r = 0
      · subst hz
        clear hr0 hr1
        have ho := Ow.lit (K := .i64) (E := 2) (xs := [2, -1]) (B := w2.heap.size) w2 (Nat.le_refl _) (by simp)
        have hal : Below w2.heap.size w2 (w2.alloc (.cells (ints .i64 [2, -1]).toArray 2)) := Below.alloc (Below.refl _ _) (Nat.le_refl _) _
        have hS3 := src_keep hS2 hal
        have hown3 := hown2.keep hal
        have hK3 := keeps_trans hK2 (keeps_below (S := S) hal)
        have hsz3 := hal.size
        clear hal hS2 hK2 hown2
        go_wp2_with fail
        refine (l01Next_any _ S 2 _ hS3 (by decide)).mono ?_
        rintro e w4 ⟨r, rfl, hr0, hr1, hS4, hg4⟩
        obtain ⟨k, rfl⟩ := Int.eq_ofNat_of_zero_le hr0
        have hk : k < 2 := by omega
        have ho4 := ow_apart ho (by omega) hg4
        have hown4 := ow_apart hown3 hSw hg4
        have hK4 := keeps_trans hK3 hg4
        have hBr4 := hK4.size
        obtain ⟨x, hx⟩ : ∃ x, ([2, -1] : List Int)[k]? = some x := ⟨_, List.getElem?_eq_getElem (by simpa using hk)⟩
        have hcell := ho4.cell hx
        have hxm := List.mem_of_getElem? hx
        have hxf : -1 ≤ x ∧ x ≤ 2 := by
          simp only [List.mem_cons, List.not_mem_nil, or_false] at hxm
          omega
        have b1 : (0 : Int) ≤ (k : Int) := by omega
        have b2 : (k : Int) < 2 := by omega
        clear hg4 hS3 hK3 hown3 ho4 ho hr0 hr1 hx hxm
        go_wp2_with (at_builtin; refine wpList_push .i64 _ rfl _ _ 23 rfl w.heap.size 2 _ i0 8 Try.underlying23 hi hz0 hz1 hz2 (by omega) a' n' c' ys _ rfl hown4 rfl (by omega) (by omega) ?_; intro a5 n5 c5 w5 hown5 hbel5)
        go_ret
        exact ⟨a5, n5, c5, _, rfl, by have e1 := hown5.len; simp at e1; omega, sm_snoc hfy hxf, hown5, src_under hS4 hbel5 hSw hBw, keeps_under hK4 hbel5⟩
      · by_cases h1 : r = 1
        · subst h1
          clear hz hr0 hr1
          go_wp2_with fail
          refine (l01Next_any _ S 3 _ hS2 (by decide)).mono ?_
          rintro e w4 ⟨r, rfl, hr0, hr1, hS4, hg4⟩
          obtain ⟨k, rfl⟩ := Int.eq_ofNat_of_zero_le hr0
          have hk : k < 3 := by omega
          have hK4 := keeps_trans hK2 hg4
          have hBr4 := hK4.size
          have v1 : IntKind.i64.wrap ((8192 : Int) + (k : Int)) = 8192 + (k : Int) := IntWalk.i64_in _ (by omega)
          have v2 : IntKind.i64.wrap ((8192 : Int) + (k : Int) - 1) = ((8191 + k : Nat) : Int) := (IntWalk.i64_in _ (by omega)).trans (by omega)
          clear hg4 hS2 hK2 hr0 hr1
          go_wp2_with (at_make; refine wpList_make_full _ rfl _ _ 23 rfl w4.heap.size 2 i0 (.int .i64 0) 1 Try.underlying23 hi hz0 hz1 .i64 .i64 _ _ (8191 + k) rfl rfl rfl rfl (by rw [hz2]; omega) (by unfold maxLen; omega) (Nat.le_refl _) ?_; intro w5 hown5 hg5)
          rw [made_ints] at hown5
          have hb5 : Below w4.heap.size w4 w5 := (Below.refl _ _).grown hg5 (Nat.le_refl _) (fun k e => by cases e)
          go_wp2
          go_ret
          exact ⟨_, _, _, _, rfl, by omega, by intro x hx; rw [List.eq_of_mem_replicate hx]; omega, Ow.more hown5 hBr4, src_keep hS4 hb5, keeps_trans hK4 (keeps_below hb5)⟩
        · have d0 : (r == 0) = false := by rw [beq_eq_false_iff_ne]; exact hz
          have d1 : (r == 1) = false := by rw [beq_eq_false_iff_ne]; exact h1
          clear hz h1 hr0 hr1
          go_wp2_with fail
          go_ret
          exact ⟨_, _, _, _, rfl, by omega, hfy, hown2, hS2, hK2⟩
    · have e1 : IntKind.i64.wrap (((m + 1 : Nat) : Int) - 1) = (m : Int) := (IntWalk.i64_in _ (by omega)).trans (by omega)
      have e2 : decide ((0 : Int) < ((m + 1 : Nat) : Int)) = true := by simp
      go_wp2_with fail
      refine (l01Next_any _ S 2 _ hS (by decide)).mono ?_
      rintro e w2 ⟨r, rfl, hr0, hr1, hS2, hg2⟩
      have hown2 := ow_apart hown hSw hg2
      have hK2 := keeps_trans hK hg2
      have hBr2 := hK2.size
      clear hg2 hS hK hown
      go_wp2_with (at_builtin; refine wpList_push .i64 _ rfl _ _ 23 rfl w.heap.size 2 _ i0 8 Try.underlying23 hi hz0 hz1 hz2 (by omega) a' n' c' ys _ rfl hown2 rfl (by omega) (by omega) ?_; intro a3 n3 c3 w3 hown3 hbel3)
      go_roundw
      case rel => exact ⟨a3, n3, c3, _, m, by omega, by go_num, rfl, by have e1 := hown3.len; have e2 := hown2.len; simp at e1; omega, sm_snoc hfy (by omega), hown3, src_under hS2 hbel3 hSw hBw, keeps_under hK2 hbel3⟩
      case measure => simp [intOf]
end Go.Proofs.Ytagdkaigdehohaa
