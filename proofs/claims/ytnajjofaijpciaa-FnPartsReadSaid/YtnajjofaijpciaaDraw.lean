/-
  Contracts of the reference's source of numbers, by which the laws draw.
  Conditions: codes of at most 4096 bytes.
-/
import Derived.Test.YtnajjofaijpciaaProg
import Derived.Test.YtnajjofaijpciaaMg1
set_option linter.unusedVariables false
namespace Go.Proofs.Ytnajjofaijpciaa
open Go.RowKit Go.G8
/-- Block S is a source of numbers over a code below block B. -/
def Src (B : Nat) (w : World) (S : Nat) : Prop :=
  ∃ (a : Option Addr) (n c : Nat) (xs : List Int) (at_ : Nat) (seed : Int), n ≤ 4096 ∧ B ≤ S ∧ S < w.heap.size ∧ B ≤ w.heap.size ∧ at_ ≤ n ∧ (0 ≤ seed ∧ seed < 2147483647) ∧ w.cell? ⟨S, 0, none⟩ = some (.slice a n c) ∧ w.cell? ⟨S, 1, none⟩ = some (.int .i64 at_) ∧ w.cell? ⟨S, 2, none⟩ = some (.int .i64 seed) ∧ (∀ i, w.frozen? ⟨S, i, none⟩ = false) ∧ Reads w B 1 a n (ints .u8 xs) ∧ (∀ x ∈ xs, fits .u8 x)
theorem frozen_set (w : World) (S i j : Nat) (u : Value) (h : w.frozen? ⟨S, j, none⟩ = false) : (w.setCell ⟨S, i, none⟩ u).frozen? ⟨S, j, none⟩ = false := by
  simpa using h
theorem src_seed (B S m c at_ : Nat) (a : Option Addr) (xs : List Int) (seed v : Int) (w : World) (hm : m ≤ 4096) (hBS : B ≤ S) (hSw : S < w.heap.size) (hBw : B ≤ w.heap.size) (hat : at_ ≤ m) (hv : 0 ≤ v ∧ v < 2147483647) (c0 : w.cell? ⟨S, 0, none⟩ = some (.slice a m c)) (c1 : w.cell? ⟨S, 1, none⟩ = some (.int .i64 at_)) (c2 : w.cell? ⟨S, 2, none⟩ = some (.int .i64 seed)) (hfz : ∀ i, w.frozen? ⟨S, i, none⟩ = false) (hrd : Reads w B 1 a m (ints .u8 xs)) (hfits : ∀ x ∈ xs, fits .u8 x) (n1 : Nat) :
    Src B ((w.setCell ⟨S, 2, none⟩ (.int .i64 v)).drewN n1) S ∧ w.grownBy ((w.setCell ⟨S, 2, none⟩ (.int .i64 v)).drewN n1) (some S) := by
  have n20 : (⟨S, 2, none⟩ : Addr) ≠ ⟨S, 0, none⟩ := by intro e; injection e; omega
  have n21 : (⟨S, 2, none⟩ : Addr) ≠ ⟨S, 1, none⟩ := by intro e; injection e; omega
  have hw : Below S w (w.setCell ⟨S, 2, none⟩ (.int .i64 v)) := (Below.refl S w).setCell (Nat.le_refl _) _
  refine ⟨⟨a, m, c, xs, at_, v, hm, hBS, by simpa using hSw, by simpa using hBw, hat, hv, ?_, ?_, ?_, fun i => frozen_set w S 2 i _ (hfz i), ?_, hfits⟩, ⟨rfl, rfl, rfl, by simp, fun q hq hne => Below.heap_setCell w _ _ q (fun e => hne (by rw [e]))⟩⟩
  · exact (World.cell?_setCell_other w _ _ _ n20).trans c0
  · exact (World.cell?_setCell_other w _ _ _ n21).trans c1
  · exact World.cell?_setCell_same _ _ _ c2
  · exact hrd.keep (fun p hp => hw.cell (p := p) (by omega))
theorem src_next (B S m c at_ : Nat) (a : Option Addr) (xs : List Int) (seed v : Int) (w : World) (hm : m ≤ 4096) (hBS : B ≤ S) (hSw : S < w.heap.size) (hBw : B ≤ w.heap.size) (hat : at_ + 1 ≤ m) (hv : 0 ≤ v ∧ v < 2147483647) (c0 : w.cell? ⟨S, 0, none⟩ = some (.slice a m c)) (c1 : w.cell? ⟨S, 1, none⟩ = some (.int .i64 at_)) (c2 : w.cell? ⟨S, 2, none⟩ = some (.int .i64 seed)) (hfz : ∀ i, w.frozen? ⟨S, i, none⟩ = false) (hrd : Reads w B 1 a m (ints .u8 xs)) (hfits : ∀ x ∈ xs, fits .u8 x) (n1 n2 : Nat) :
    Src B ((((w.setCell ⟨S, 2, none⟩ (.int .i64 v)).drewN n1).setCell ⟨S, 1, none⟩ (.int .i64 ((at_ : Int) + 1))).drewN n2) S ∧ w.grownBy ((((w.setCell ⟨S, 2, none⟩ (.int .i64 v)).drewN n1).setCell ⟨S, 1, none⟩ (.int .i64 ((at_ : Int) + 1))).drewN n2) (some S) := by
  have n20 : (⟨S, 2, none⟩ : Addr) ≠ ⟨S, 0, none⟩ := by intro e; injection e; omega
  have n21 : (⟨S, 2, none⟩ : Addr) ≠ ⟨S, 1, none⟩ := by intro e; injection e; omega
  have n10 : (⟨S, 1, none⟩ : Addr) ≠ ⟨S, 0, none⟩ := by intro e; injection e; omega
  have hw : Below S w ((w.setCell ⟨S, 2, none⟩ (.int .i64 v)).setCell ⟨S, 1, none⟩ (.int .i64 ((at_ : Int) + 1))) := ((Below.refl S w).setCell (Nat.le_refl _) _).setCell (Nat.le_refl _) _
  refine ⟨⟨a, m, c, xs, at_ + 1, v, hm, hBS, by simpa using hSw, by simpa using hBw, hat, hv, ?_, ?_, ?_, fun i => frozen_set _ S 1 i _ (frozen_set w S 2 i _ (hfz i)), ?_, hfits⟩, ⟨rfl, rfl, rfl, by simp, fun q hq hne => (Below.heap_setCell _ _ _ q (fun e => hne (by rw [e]))).trans (Below.heap_setCell w _ _ q (fun e => hne (by rw [e])))⟩⟩
  · exact (World.cell?_setCell_other _ _ _ _ n10).trans ((World.cell?_setCell_other w _ _ _ n20).trans c0)
  · exact World.cell?_setCell_same _ _ _ ((World.cell?_setCell_other w _ _ _ n21).trans c1)
  · exact (World.cell?_setCell_other _ _ _ _ n21.symm).trans (World.cell?_setCell_same _ _ _ c2)
  · exact hrd.keep (fun p hp => hw.cell (p := p) (by omega))
set_option maxHeartbeats 1000000 in
set_option maxRecDepth 20000 in
theorem l01Next_any (B S : Nat) (n : Int) (w : World) (h : Src B w S) (hn : n ≤ 9223372036854775807 ∧ -9223372036854775808 ≤ n) :
    Calls Try.prog 46 #[.pointer (some ⟨S, 0, none⟩), .int .i64 n] w (fun e w' => ∃ r, e = .returned (.int .i64 r) ∧ 0 ≤ r ∧ (r < n ∨ (r = 0 ∧ n ≤ 1)) ∧ Src B w' S ∧ w.grownBy w' (some S)) := by
  by_cases hn1 : n ≤ 1
  · have HH := Lib.hid h
    clear h
    go_enter Try.func46, Try.ntmps46
    go_wp2
    go_ret
    exact ⟨0, rfl, by omega, .inr ⟨rfl, hn1⟩, HH.out, World.grownBy.refl _ _⟩
  · have hn2 : 1 < n := by omega
    have HH := Lib.hid h
    obtain ⟨a, m, c, xs, at_, seed, hm, hBS, hSw, hBw, hat, ⟨hs1, hs2⟩, c0, c1, c2, hfz, hrd, hfits⟩ := h
    have hrw : Rd .u8 w a m xs := ⟨hrd.more hBw, hfits⟩
    clear hn1
    have hbS : ∀ b, b < B → b ≠ S := fun b hb => by omega
    by_cases hlt : at_ < m
    · obtain ⟨b, o, x, ha, hbl, hcell, hx, hx1, hx2⟩ := hrw.at8 hlt
      have hbB : b < B := by
        obtain ⟨ad, e, hb, -⟩ := hrd.2 (by omega)
        rw [ha] at e
        injection e with e
        subst e
        exact hb
      subst ha
      have hv1 := Int.emod_nonneg (seed * 48271 + 11) (show (2147483647 : Int) ≠ 0 by decide)
      have hv2 := Int.emod_lt_of_pos (seed * 48271 + 11) (show (0 : Int) < 2147483647 by decide)
      have e1 : IntKind.i64.wrap ((seed * 48271 + 11) % 2147483647 / 17 + x) = (seed * 48271 + 11) % 2147483647 / 17 + x := IntWalk.i64_in _ (by omega)
      have e2 : IntKind.i64.wrap x = x := IntWalk.i64_in _ (by omega)
      have b1 : (0 : Int) ≤ (at_ : Int) := by omega
      have b2 : (at_ : Int) < (m : Int) := by omega
      have hcellS : (w.setCell ⟨S, 2, none⟩ (.int .i64 ((seed * 48271 + 11) % 2147483647))).cell? ⟨b, o + at_, none⟩ = some (.int .u8 x) := by rw [World.cell?_setCell_other _ _ _ _ (by intro e; injection e; omega)]; exact hcell
      have hrn : 0 ≤ ((seed * 48271 + 11) % 2147483647 / 17 + x) % n ∧ ((seed * 48271 + 11) % 2147483647 / 17 + x) % n < n := ⟨Int.emod_nonneg _ (by omega), Int.emod_lt_of_pos _ (by omega)⟩
      have hxn : 0 ≤ x % n ∧ x % n < n := ⟨Int.emod_nonneg _ (by omega), Int.emod_lt_of_pos _ (by omega)⟩
      have HRN := Lib.hid hrn
      have HXN := Lib.hid hxn
      have hSN := Lib.hid (fun n1 n2 => src_next B S m c at_ (some ⟨b, o, none⟩) xs seed ((seed * 48271 + 11) % 2147483647) w hm hBS hSw hBw (by omega) ⟨hv1, hv2⟩ c0 c1 c2 hfz hrd hfits n1 n2)
      have HNE := Lib.hid (show S ≠ b by omega)
      clear hrn hxn HH hrd hfits hrw hBS hbl hbB hbS
      by_cases h256 : n ≤ 256
      · by_cases hev : ((at_ : Int) + 1) % 2 = 0
        · have hevb : (((at_ : Int) + 1) % 2 == 0) = true := by rw [beq_iff_eq]; exact hev
          have e3 : IntKind.i64.wrap (at_ : Int) = (at_ : Int) := IntWalk.i64_in _ (by omega)
          have hcellS2 : ∀ k, (((w.setCell ⟨S, 2, none⟩ (.int .i64 ((seed * 48271 + 11) % 2147483647))).drewN k).setCell ⟨S, 1, none⟩ (.int .i64 ((at_ : Int) + 1))).cell? ⟨b, o + at_, none⟩ = some (.int .u8 x) := by intro k; rw [World.cell?_setCell_other _ _ _ _ (by intro e; injection e with e; exact HNE.out e)]; exact hcellS
          clear hev
          go_enter Try.func46, Try.ntmps46
          go_wp2
          go_quiet (fail)
          go_wp2
          go_quiet (fail)
          go_wp2
          go_quiet (fail)
          go_wp2
          go_ret
          exact ⟨_, rfl, HXN.out.1, .inl HXN.out.2, hSN.out _ _⟩
        · have hevb : (((at_ : Int) + 1) % 2 == 0) = false := by rw [beq_eq_false_iff_ne]; exact hev
          clear hev
          go_enter Try.func46, Try.ntmps46
          go_wp2
          go_quiet (fail)
          go_wp2
          go_quiet (fail)
          go_wp2
          go_ret
          exact ⟨_, rfl, HRN.out.1, .inl HRN.out.2, hSN.out _ 0⟩
      · have h256' : 256 < n := by omega
        clear h256
        go_enter Try.func46, Try.ntmps46
        go_wp2
        go_quiet (fail)
        go_wp2
        go_quiet (fail)
        go_wp2
        go_ret
        exact ⟨_, rfl, HRN.out.1, .inl HRN.out.2, hSN.out _ 0⟩
    · have hge : (m : Int) ≤ (at_ : Int) := by omega
      have hv1 := Int.emod_nonneg (seed * 48271 + 11) (show (2147483647 : Int) ≠ 0 by decide)
      have hv2 := Int.emod_lt_of_pos (seed * 48271 + 11) (show (0 : Int) < 2147483647 by decide)
      have HRN := Lib.hid (show 0 ≤ (seed * 48271 + 11) % 2147483647 / 17 % n ∧ (seed * 48271 + 11) % 2147483647 / 17 % n < n from ⟨Int.emod_nonneg _ (by omega), Int.emod_lt_of_pos _ (by omega)⟩)
      have hSN := Lib.hid (fun n1 => src_seed B S m c at_ a xs seed ((seed * 48271 + 11) % 2147483647) w hm hBS hSw hBw hat ⟨hv1, hv2⟩ c0 c1 c2 hfz hrd hfits n1)
      clear HH hrd hfits hrw hBS hlt
      go_enter Try.func46, Try.ntmps46
      go_wp2
      go_quiet (fail)
      go_wp2
      go_ret
      exact ⟨_, rfl, HRN.out.1, .inl HRN.out.2, hSN.out _⟩
set_option maxHeartbeats 1000000 in
set_option maxRecDepth 20000 in
theorem l01From_any (a : Option Addr) (n c : Nat) (xs : List Int) (w : World) (h : Rd .u8 w a n xs) (hn : n ≤ 4096) :
    Calls Try.prog 45 #[.slice a n c] w (fun e w' => ∃ S, e = .returned (.pointer (some ⟨S, 0, none⟩)) ∧ Src w.heap.size w' S ∧ Below w.heap.size w w') := by
  have HR := Lib.hid h
  clear h
  go_enter Try.func45, Try.ntmps45
  go_wp2
  have hst : Below w.heap.size w (w.alloc (.cells #[.slice a n c, .int .i64 0, .int .i64 60617] 94)) := Below.alloc (Below.refl _ _) (Nat.le_refl _) _
  have hfz0 : ∀ i, (w.alloc (.cells #[.slice a n c, .int .i64 0, .int .i64 60617] 94)).frozen? ⟨w.heap.size, i, none⟩ = false := fun i => frozen_of_row _ _ _ _ _ (heap_alloc_new w _)
  go_loopw [4] (fun i wr => ∃ (k : Nat) (seed : Int), k ≤ n ∧ k ≤ 64 ∧ i = .int .i64 (k : Int) ∧ 0 ≤ seed ∧ seed < 2147483647 ∧ wr.cell? ⟨w.heap.size, 0, none⟩ = some (.slice a n c) ∧ wr.cell? ⟨w.heap.size, 1, none⟩ = some (.int .i64 0) ∧ wr.cell? ⟨w.heap.size, 2, none⟩ = some (.int .i64 seed) ∧ (∀ i, wr.frozen? ⟨w.heap.size, i, none⟩ = false) ∧ Below w.heap.size w wr ∧ w.heap.size < wr.heap.size) (fun i _ => n - (intOf i).toNat)
  case atStart =>
    refine ⟨0, 60617, by omega, by omega, rfl, by omega, by omega, ?_, ?_, ?_, hfz0, hst, by simp⟩ <;> rw [cell_of_row _ _ _ _ _ (0, 0) (heap_alloc_new w _)] <;> rfl
  case round =>
    clear hst hfz0
    obtain ⟨k, seed, hk, hk64, rfl, hs1, hs2, c0, c1, c2, hfz, hbel, hlt⟩ := hrel
    by_cases hkn : k < n ∧ k < 64
    · obtain ⟨hk1, hk2⟩ := hkn
      obtain ⟨b, o, x, rfl, hbl, hcell, hx, hx1, hx2⟩ := HR.out.at8 hk1
      have hcx := (hbel.cell (p := ⟨b, o + k, none⟩) hbl).trans hcell
      have b1 : (0 : Int) ≤ (k : Int) := by omega
      have b2 : (k : Int) < (n : Int) := by omega
      have b3 : (k : Int) < 64 := by omega
      clear hcell
      go_wp2
      go_region
      have hv1 := Int.emod_nonneg (seed * 43 + x) (show (2147483647 : Int) ≠ 0 by decide)
      have hv2 := Int.emod_lt_of_pos (seed * 43 + x) (show (0 : Int) < 2147483647 by decide)
      have n20 : (⟨w.heap.size, 2, none⟩ : Addr) ≠ ⟨w.heap.size, 0, none⟩ := by intro e; injection e; omega
      have n21 : (⟨w.heap.size, 2, none⟩ : Addr) ≠ ⟨w.heap.size, 1, none⟩ := by intro e; injection e; omega
      have e0 := (World.cell?_setCell_other wr _ _ (.int .i64 ((seed * 43 + x) % 2147483647)) n20).trans c0
      have e1 := (World.cell?_setCell_other wr _ _ (.int .i64 ((seed * 43 + x) % 2147483647)) n21).trans c1
      have e2 := World.cell?_setCell_same wr _ (.int .i64 ((seed * 43 + x) % 2147483647)) c2
      have e3 := fun i => frozen_set wr w.heap.size 2 i (.int .i64 ((seed * 43 + x) % 2147483647)) (hfz i)
      have HE := Lib.hid (show _ ∧ _ ∧ _ ∧ _ from ⟨e0, e1, e2, e3⟩)
      have HV := Lib.hid (show _ ∧ _ from ⟨hv1, hv2⟩)
      clear e0 e1 e2 e3 hv1 hv2 n20 n21
      go_wp2
      exact ⟨⟨k + 1, _, by omega, by omega, by go_num, HV.out.1, HV.out.2, HE.out.1, HE.out.2.1, HE.out.2.2.1, HE.out.2.2.2, (hbel.setCell (Nat.le_refl _) _).drew, by simpa using hlt⟩, by simp [intOf]; omega⟩
    · have hsrc : Src w.heap.size wr w.heap.size := ⟨a, n, c, xs, 0, seed, hn, Nat.le_refl _, hlt, hbel.size, Nat.zero_le _, ⟨hs1, hs2⟩, c0, c1, c2, hfz, HR.out.1.keep (fun p hp => hbel.cell hp), HR.out.2⟩
      have HSrc := Lib.hid hsrc
      clear hsrc
      by_cases hk1 : k < n
      · have b2 : (k : Int) < (n : Int) := by omega
        have b3 : (64 : Int) ≤ (k : Int) := by omega
        clear hkn
        go_wp2
        go_ret
        exact ⟨_, rfl, HSrc.out, hbel⟩
      · have b2 : (n : Int) ≤ (k : Int) := by omega
        clear hkn hk1
        go_wp2
        go_ret
        exact ⟨_, rfl, HSrc.out, hbel⟩
end Go.Proofs.Ytnajjofaijpciaa
