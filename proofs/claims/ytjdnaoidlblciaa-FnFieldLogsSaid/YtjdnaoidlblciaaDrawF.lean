/-
  Contracts: what the reference draws for fields.
  Conditions: codes of at most 4096 bytes.
-/
import Derived.Test.YtjdnaoidlblciaaDraw
import Derived.Test.YtjdnaoidlblciaaFieldOf
set_option linter.unusedVariables false
namespace Go.Proofs.Ytjdnaoidlblciaa
open Go.RowKit Go.G8
theorem Src_le {B S : Nat} {w : World} (h : Src B w S) : B ≤ S ∧ B ≤ w.heap.size ∧ S < w.heap.size := by
  obtain ⟨_, _, _, _, _, _, _, h1, h2, h3, _⟩ := h
  exact ⟨h1, h3, h2⟩
theorem below_src {B S : Nat} {w w' : World} (h : Src B w S) (g : w.grownBy w' (some S)) : Below B w w' := by
  obtain ⟨h1, h2, h3⟩ := Src_le h
  exact (Below.refl B w).grown g h2 (fun k e => by injection e with e; omega)
theorem src_keep {B S : Nat} {w w' : World} (h : Src B w S) (hb : Below w.heap.size w w') : Src B w' S := by
  obtain ⟨a, m, c, xs, at_, seed, hm, hBS, hSw, hBw, hat, hv, c0, c1, c2, hfz, hrd, hfits⟩ := h
  obtain ⟨hcc, hff⟩ := bcell hb
  have := hb.size
  exact ⟨a, m, c, xs, at_, seed, hm, hBS, by omega, by omega, hat, hv, (hcc S 0 hSw).trans c0, (hcc S 1 hSw).trans c1, (hcc S 2 hSw).trans c2, fun i => (hff S i hSw).trans (hfz i), hrd.keep (fun p hp => hb.cell (by omega)), hfits⟩
set_option maxHeartbeats 1000000 in
set_option maxRecDepth 20000 in
theorem drawFieldOf_any (a : Option Addr) (n c : Nat) (xs : List Int) (w : World) (h : Rd .u8 w a n xs) (hn : n ≤ 4096) :
    Calls Try.prog 15 #[.slice a n c] w (fun e w' => ∃ r, e = .returned (.int .i64 r) ∧ (-9223372036854775808 ≤ r ∧ r ≤ 9223372036854775807) ∧ Below w.heap.size w w') := by
  go_enter Try.func15, Try.ntmps15
  go_wp2_with fail
  refine (l01From_any a n c xs _ h hn).mono ?_
  rintro e w1 ⟨S, rfl, hS, hb1⟩
  clear h
  go_wp2_with fail
  refine (l01Next_any _ S 3 _ hS (by omega)).mono ?_
  rintro e w2 ⟨r, rfl, hr0, hr1, hS2, hg2⟩
  have hb2 := hb1.trans (below_src hS hg2)
  clear hg2 hb1 hS
  by_cases hr : r = 0
  · subst hr
    clear hr0 hr1
    have ho := Ow.lit (K := .i64) (E := 2) (xs := [0, 1, 2, 3, 4, 256, 512, 1021, 1024, -8]) (B := w2.heap.size) w2 (Nat.le_refl _) (by decide)
    have hS3 := src_keep hS2 (Below.alloc (Below.refl w2.heap.size w2) (Nat.le_refl _) (.cells (ints .i64 [0, 1, 2, 3, 4, 256, 512, 1021, 1024, -8]).toArray 2))
    have HO := Lib.hid ho
    have HS := Lib.hid hS3
    clear ho hS3
    go_wp2_with fail
    refine (l01Next_any _ S 10 _ HS.out (by omega)).mono ?_
    rintro e w3 ⟨r, rfl, hr0, hr1, hS4, hg3⟩
    obtain ⟨k, rfl⟩ := Int.eq_ofNat_of_zero_le hr0
    have hk : k < 10 := by omega
    have hb3 := (hb2.alloc hb2.size (.cells (ints .i64 [0, 1, 2, 3, 4, 256, 512, 1021, 1024, -8]).toArray 2)).trans (below_src HS.out hg3)
    have hSw := (Src_le hS2).2.2
    have ho3 := Ow.sep (a' := some ⟨S, 0, none⟩) HO.out hg3 (fun g h1 h2 => by simp [blk] at h1 h2; omega)
    obtain ⟨x, hx⟩ : ∃ x, ([0, 1, 2, 3, 4, 256, 512, 1021, 1024, -8] : List Int)[k]? = some x := ⟨_, List.getElem?_eq_getElem (by simpa using hk)⟩
    have hcell := ho3.cell hx
    have hxm := List.mem_of_getElem? hx
    have hxf : -9223372036854775808 ≤ x ∧ x ≤ 9223372036854775807 := by
      simp only [List.mem_cons, List.not_mem_nil, or_false] at hxm
      omega
    have b1 : (0 : Int) ≤ (k : Int) := by omega
    have b2 : (k : Int) < 10 := by omega
    clear ho3 hg3 hr1 hr0 hb2 hx hxm
    go_wp2_with fail
    go_ret
    exact ⟨x, rfl, hxf, hb3⟩
  · have hrb : (r == 0) = false := by rw [beq_eq_false_iff_ne]; exact hr
    clear hr0 hr1 hr
    go_wp2_with fail
    refine (l01Next_any _ S 140 _ hS2 (by omega)).mono ?_
    rintro e w3 ⟨r3, rfl, hr0, hr1, hS3, hg3⟩
    have hb3 := hb2.trans (below_src hS2 hg3)
    clear hg3 hb2 hS2
    go_wp2_with fail
    go_ret
    exact ⟨r3, rfl, by omega, hb3⟩
end Go.Proofs.Ytjdnaoidlblciaa
