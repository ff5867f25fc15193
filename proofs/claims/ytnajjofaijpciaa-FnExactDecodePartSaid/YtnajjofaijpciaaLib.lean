/-
  Contracts of the helpers of package laws: copies, comparisons and marks of slices of int64.
  Conditions: lengths of at most 2^20; comparisons of equal lists; marks that are read back.
-/
import Derived.Test.YtnajjofaijpciaaProg
import Derived.Test.YtnajjofaijpciaaBase
namespace Go.Proofs.Ytnajjofaijpciaa
open Go.RowKit Go.G8
theorem info_int64 : (Try.prog.info? 2).map (fun i => (i.zero, i.size, i.bytes)) = some (some (.int .i64 0), 1, 8) := by kernel_rfl

set_option maxHeartbeats 400000 in
theorem toInt64S_any (a : Option Addr) (n c : Nat) (xs : List Int) (w : World) (h : Rd .i64 w a n xs) (hn : n ≤ 1048576) :
    Calls Try.prog 9 #[.slice a n c] w (RetRow .i64 2 xs w) := by
  obtain ⟨i0, hi, hz0, hz1, hz2⟩ := info_parts info_int64
  have HL := Lib.hid h.len
  go_enter Try.func9, Try.ntmps9
  go_wp2_with (at_make; refine wpList_make_full _ rfl _ _ 22 rfl w.heap.size 2 i0 (.int .i64 0) 1 Try.underlying22 hi hz0 hz1 .i64 .i64 _ _ n rfl rfl rfl rfl (by rw [hz2]; omega) (by unfold maxLen; omega) (Nat.le_refl _) ?_; intro w1 hown1 hg1)
  clear hz0 hz1 hz2
  rw [made_ints] at hown1
  go_loopw [4] (fun i wr => ∃ k : Nat, k ≤ n ∧ i = .int .i64 k ∧ Ow .i64 2 w.heap.size wr (some ⟨w.heap.size, 0, none⟩) n n (xs.take k ++ List.replicate (n - k) 0) ∧ Below w.heap.size w wr) (fun i _ => n - (intOf i).toNat)
  case atStart => exact ⟨0, Nat.zero_le _, rfl, by simpa [Ow] using hown1, (Below.refl _ _).grown hg1 (Nat.le_refl _) (by simp)⟩
  case round =>
    clear hown1 hg1
    obtain ⟨k, hk, rfl, hown, hbel⟩ := hrel
    by_cases hlt : k < n
    · obtain ⟨b, o, x, rfl, hb, hc, hx, hx1, hx2⟩ := (h.to hbel).at_ hlt
      have hold := hown.cell (fill_get hlt HL.out)
      have hfr := hown.free k
      go_wp2
      go_roundw
      case rel => exact ⟨k + 1, by omega, by go_num, by have := hown.set_ k x; rwa [fill_set hx.out HL.out] at this, hbel.setCell (Nat.le_refl _) _⟩
      case measure => simp [intOf]; omega
    · go_wp2
      go_ret
      obtain rfl : k = n := by omega
      exact ⟨_, _, _, rfl, by rwa [fill_all HL.out] at hown, hbel⟩

/-- Two slices that read as one list are equal. -/
theorem eqInt64S_same (a b : Option Addr) (n m c d : Nat) (xs : List Int) (w : World) (ha : Rd .i64 w a n xs) (hb : Rd .i64 w b m xs) (hn : n ≤ 1000000000) :
    Calls Try.prog 12 #[.slice a n c, .slice b m d] w (RetQ (.bool true) w) := by
  obtain rfl : n = m := by rw [← ha.len, hb.len]
  have hne : ((n : Int) != (n : Int)) = false := by simp
  go_enter Try.func12, Try.ntmps12
  go_wp2
  go_loopw [5] (fun i wr => ∃ k j : Nat, k ≤ n ∧ i = .int .i64 k ∧ wr = w.drewN j) (fun i _ => n - (intOf i).toNat)
  case atStart => exact ⟨0, 0, Nat.zero_le _, rfl, rfl⟩
  case round =>
    obtain ⟨k, j, hk, rfl, rfl⟩ := hrel
    by_cases hlt : k < n
    · obtain ⟨b1, o1, x, rfl, -, hc1, hx, hx1, hx2⟩ := ha.at_ hlt
      obtain ⟨b2, o2, y, rfl, -, hc2, hy, -, -⟩ := hb.at_ hlt
      obtain rfl : x = y := by have h1 := hx.out; rw [hy.out] at h1; exact (Option.some.inj h1).symm
      have hxx : (x != x) = false := by simp
      have hl1 : (0 : Int) ≤ (k : Int) := by omega
      have hl2 : (k : Int) < (n : Int) := by omega
      go_wp2
      go_quiet (fail)
      go_wp2
      go_roundw
      case rel => exact ⟨k + 1, _, by omega, by go_num, rfl⟩
      case measure => simp [intOf]; omega
    · go_wp2
      go_ret
      exact ⟨rfl, j, rfl⟩

/-- k, k + 1, .. : n numbers. -/
def seqI (k : Int) (n : Nat) : List Int := (List.range n).map (fun j : Nat => k + (j : Int))
theorem seqI_get (k : Int) (n j : Nat) (h : j < n) : (seqI k n)[j]? = some (k + j) := by simp [seqI, h]
theorem seqI_length (k : Int) (n : Nat) : (seqI k n).length = n := by simp [seqI]
theorem seqI_fits (k : Int) (n : Nat) (h0 : 0 ≤ k) (h1 : k + n ≤ 9223372036854775807) : ∀ x ∈ seqI k n, fits .i64 x := by
  intro x hx
  simp only [seqI, List.mem_map, List.mem_range] at hx
  obtain ⟨j, hj, rfl⟩ := hx
  show -9223372036854775808 ≤ _ ∧ _ ≤ _
  omega
/-- The row in the middle of its marking: j marks, the rest as it was. -/
theorem mark_set (xs : List Int) (k : Int) (j : Nat) (h : j < xs.length) : (seqI k j ++ xs.drop j).set j (k + j) = seqI k (j + 1) ++ xs.drop (j + 1) := by
  have e : seqI k (j + 1) = seqI k j ++ [k + (j : Int)] := by simp [seqI, List.range_succ]
  rw [List.set_append, if_neg (by simp [seqI_length]), seqI_length, Nat.sub_self, List.drop_eq_getElem_cons h, e, List.append_assoc]
  rfl

set_option maxHeartbeats 400000 in
/-- Marks are written over a row of one's own. -/
theorem markInt64S_any {E : TypeId} (B : Nat) (a : Option Addr) (n c : Nat) (xs : List Int) (k : Int) (w : World) (ho : Ow .i64 E B w a n c xs) (hn : n ≤ 1000000000) (h0 : 0 ≤ k) (h1 : k ≤ 1000000000000) :
    Calls Try.prog 17 #[.slice a n c, .int .i64 k] w fun e w' => e = .returned (.int .i64 (k + n)) ∧ Ow .i64 E B w' a n c (seqI k n) ∧ w.grownBy w' (blk a) := by
  have HL := Lib.hid ho.len
  go_enter Try.func17, Try.ntmps17
  go_wp2
  go_loopw [1, 5] (fun v i wr => ∃ j : Nat, j ≤ n ∧ i = .int .i64 j ∧ v = .int .i64 (k + j) ∧ Ow .i64 E B wr a n c (seqI k j ++ xs.drop j) ∧ w.grownBy wr (blk a)) (fun _ i _ => n - (intOf i).toNat)
  case atStart => exact ⟨0, Nat.zero_le _, rfl, by simp, by simpa [seqI] using ho, World.grownBy.refl _ _⟩
  case round =>
    obtain ⟨j, hj, rfl, rfl, hown, hg⟩ := hrel
    by_cases hlt : j < n
    · obtain ⟨g, rfl, -, hgs⟩ := hown.form (by omega)
      have hl : j < xs.length := by rw [HL.out]; exact hlt
      obtain ⟨x, hx⟩ : ∃ x, xs[j]? = some x := ⟨_, List.getElem?_eq_getElem hl⟩
      have hold := hown.cell (k := j) (x := x) (by rw [List.getElem?_append_right (by simp [seqI_length]), seqI_length]; simpa using hx)
      have Hx := Lib.hid hx
      clear hx
      have hfr := hown.free j
      go_wp2
      go_roundw
      case rel => exact ⟨j + 1, by omega, by go_num, by go_num, by have := hown.set_ j (k + j); rwa [mark_set xs k j hl] at this, ⟨hg.os, hg.tape, hg.output, by simpa using hg.size, fun q hq hne => (Below.heap_setCell _ _ _ _ (fun e => hne (by rw [e]; rfl))).trans (hg.block q hq hne)⟩⟩
      case measure => simp [intOf]; omega
    · obtain rfl : j = n := by omega
      go_wp2
      go_ret
      exact ⟨rfl, by rwa [List.drop_eq_nil_of_le (by rw [HL.out]; exact Nat.le_refl _), List.append_nil] at hown, hg⟩

theorem big_any (a : Option Addr) (n c : Nat) (w : World) : Calls Try.prog 25 #[.slice a n c] w (RetS (.bool (decide (4096 < (n : Int)))) w) := by
  go_enter Try.func25, Try.ntmps25
  go_wp2
  go_ret
  exact ⟨rfl, rfl⟩
end Go.Proofs.Ytnajjofaijpciaa
