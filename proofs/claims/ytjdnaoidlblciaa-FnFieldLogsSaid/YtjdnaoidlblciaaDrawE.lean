/-
  Contracts: what the reference draws for fields' elements.
  Conditions: codes of at most 4096 bytes.
-/
import Derived.Test.YtjdnaoidlblciaaDrawG
import Derived.Test.YtjdnaoidlblciaaMulS
import Derived.Test.YtjdnaoidlblciaaFieldPow
set_option linter.unusedVariables false
namespace Go.Proofs.Ytjdnaoidlblciaa
open Go.RowKit Go.G8
def DrawnE (B S : Nat) (w : World) (e : Ending) (w' : World) : Prop :=
  ∃ r : Int, e = .returned (.int .i64 r) ∧ (-9223372036854775808 ≤ r ∧ r ≤ 9223372036854775807) ∧ Src B w' S ∧ w.grownBy w' (some S)
theorem sizeF_small {p q y : Int} (h : fieldB p q y = true) : 3 ≤ fsize p q ∧ fsize p q ≤ 1021 := by
  have F := field_facts h
  have := F.size
  have := F.small
  omega
set_option maxHeartbeats 4000000 in
set_option maxRecDepth 20000 in
theorem l02DrawElement_any (B S : Nat) (p q y : Int) (w : World) (h : Src B w S) :
    Calls Try.prog 108 #[.pointer (some ⟨S, 0, none⟩), .agg #[.int .i64 p, .int .i64 q, .int .i64 y]] w (DrawnE B S w) := by
  have HH := Lib.hid h
  have hBw := (Src_le h).2.1
  have hSw := (Src_le h).2.2
  clear h
  have hal0 : Below w.heap.size w (w.alloc (.cells #[.int .i64 p, .int .i64 q, .int .i64 y] 26)) := Below.alloc (Below.refl _ _) (Nat.le_refl _) _
  have HS0 := Lib.hid (src_keep HH.out hal0)
  have HB0 := Lib.hid (keeps_below (S := S) hal0)
  clear hal0
  go_enter Try.func108, Try.ntmps108
  go_wp2_with fail
  refine (isField_spec p q y _).mono ?_
  rintro e w1 ⟨rfl, hb1⟩
  cases hf : fieldB p q y
  · have HS := Lib.hid (src_keep HS0.out hb1)
    have HB := Lib.hid (keeps_trans HB0.out (keeps_below (S := S) hb1))
    clear hb1 HS0 HB0 HH
    go_wp2_with fail
    refine (l01Next_any _ S 24 _ HS.out (by decide)).mono ?_
    rintro e w3 ⟨r, rfl, hr0, hr1, hS3, hg3⟩
    have hb3 := Lib.hid (keeps_trans HB.out hg3)
    by_cases hr : r = 0
    · subst hr
      clear hr0 hr1
      have ho := Ow.lit (K := .i64) (E := 2) (xs := [-1, 8, 8 - 1, 0]) (B := w3.heap.size) w3 (Nat.le_refl _) (by simp)
      have hal : Below w3.heap.size w3 (w3.alloc (.cells (ints .i64 [-1, 8, 8 - 1, 0]).toArray 2)) := Below.alloc (Below.refl _ _) (Nat.le_refl _) _
      have hS4 := src_keep hS3 hal
      have hb4 := Lib.hid (keeps_trans hb3.out (keeps_below (S := S) hal))
      have hSw3 := (Src_le hS3).2.2
      clear hal hg3 hS3 hb3
      go_wp2_with fail
      refine (l01Next_any _ S 4 _ hS4 (by decide)).mono ?_
      rintro e w5 ⟨r, rfl, hr0, hr1, hS5, hg5⟩
      obtain ⟨k, rfl⟩ := Int.eq_ofNat_of_zero_le hr0
      have hk : k < 4 := by omega
      have ho5 := Ow.sep (a' := some ⟨S, 0, none⟩) ho hg5 (fun g h1 h2 => by simp [blk] at h1 h2; omega)
      obtain ⟨x, hx⟩ : ∃ x, ([-1, 8, 8 - 1, 0] : List Int)[k]? = some x := ⟨_, List.getElem?_eq_getElem (by simpa using hk)⟩
      have hcell := ho5.cell hx
      have hxm := List.mem_of_getElem? hx
      have hxf : -9223372036854775808 ≤ x ∧ x ≤ 9223372036854775807 := by
        simp only [List.mem_cons, List.not_mem_nil, or_false] at hxm
        omega
      have b1 : (0 : Int) ≤ (k : Int) := by omega
      have b2 : (k : Int) < 4 := by omega
      have HS5 := Lib.hid hS5
      have HB5 := Lib.hid (keeps_trans hb4.out hg5)
      clear ho5 hg5 hr1 hr0 hx hxm ho hS4 hb4 hS5
      go_wp2_with fail
      go_ret
      exact ⟨x, rfl, hxf, HS5.out, HB5.out⟩
    · have hd : (r == 0) = false := by rw [beq_eq_false_iff_ne]; exact hr
      clear hr0 hr1 hr hg3
      go_wp2_with fail
      refine (l01Next_any _ S 8 _ hS3 (by omega)).mono ?_
      rintro e w5 ⟨r, rfl, hr0, hr1, hS5, hg5⟩
      go_wp2_with fail
      go_ret
      exact ⟨r, rfl, by omega, hS5, keeps_trans hb3.out hg5⟩
  · obtain ⟨hz1, hz2⟩ := sizeF_small hf
    have HF := Lib.hid (fun w => l02Size_any w hf)
    obtain ⟨z, hz⟩ : ∃ z, fsize p q = z := ⟨_, rfl⟩
    rw [hz] at HF hz1 hz2
    have HB1 := Lib.hid hb1
    have HS1 := Lib.hid (src_keep HS0.out hb1)
    have HB2 := Lib.hid (keeps_trans HB0.out (keeps_below (S := S) hb1))
    have hs1 := Nat.lt_of_lt_of_le (show w.heap.size < (w.alloc (.cells #[.int .i64 p, .int .i64 q, .int .i64 y] 26)).heap.size by simp) hb1.size
    obtain ⟨n0, n1, n2, n3⟩ := new_fld w (.int .i64 p) (.int .i64 q) (.int .i64 y) 26
    obtain ⟨c0, c1, c2⟩ := cell3 hb1 n3 n0 n1 n2
    clear hb1 HS0 HB0 HH hz HB1 n0 n1 n2 n3
    go_wp2_with fail
    refine (HF.out _).mono ?_
    rintro e w2 ⟨rfl, hb2⟩
    have HS := Lib.hid (src_keep HS1.out hb2)
    have HB := Lib.hid (keeps_trans HB2.out (keeps_below (S := S) hb2))
    clear hb2 HS1 HB2
    go_wp2_with fail
    refine (l01Next_any _ S 24 _ HS.out (by decide)).mono ?_
    rintro e w3 ⟨r, rfl, hr0, hr1, hS3, hg3⟩
    have hb3 := Lib.hid (keeps_trans HB.out hg3)
    by_cases hr : r = 0
    · subst hr
      clear hr0 hr1
      have ho := Ow.lit (K := .i64) (E := 2) (xs := [-1, z, z - 1, 0]) (B := w3.heap.size) w3 (Nat.le_refl _) (by simp)
      have hal : Below w3.heap.size w3 (w3.alloc (.cells (ints .i64 [-1, z, z - 1, 0]).toArray 2)) := Below.alloc (Below.refl _ _) (Nat.le_refl _) _
      have hS4 := src_keep hS3 hal
      have hb4 := Lib.hid (keeps_trans hb3.out (keeps_below (S := S) hal))
      have hSw3 := (Src_le hS3).2.2
      clear hal hg3 hS3 hb3
      go_wp2_with fail
      refine (l01Next_any _ S 4 _ hS4 (by decide)).mono ?_
      rintro e w5 ⟨r, rfl, hr0, hr1, hS5, hg5⟩
      obtain ⟨k, rfl⟩ := Int.eq_ofNat_of_zero_le hr0
      have hk : k < 4 := by omega
      have ho5 := Ow.sep (a' := some ⟨S, 0, none⟩) ho hg5 (fun g h1 h2 => by simp [blk] at h1 h2; omega)
      obtain ⟨x, hx⟩ : ∃ x, ([-1, z, z - 1, 0] : List Int)[k]? = some x := ⟨_, List.getElem?_eq_getElem (by simpa using hk)⟩
      have hcell := ho5.cell hx
      have hxm := List.mem_of_getElem? hx
      have hxf : -9223372036854775808 ≤ x ∧ x ≤ 9223372036854775807 := by
        simp only [List.mem_cons, List.not_mem_nil, or_false] at hxm
        omega
      have b1 : (0 : Int) ≤ (k : Int) := by omega
      have b2 : (k : Int) < 4 := by omega
      have HS5 := Lib.hid hS5
      have HB5 := Lib.hid (keeps_trans hb4.out hg5)
      clear ho5 hg5 hr1 hr0 hx hxm ho hS4 hb4 hS5
      go_wp2_with fail
      go_ret
      exact ⟨x, rfl, hxf, HS5.out, HB5.out⟩
    · have hd : (r == 0) = false := by rw [beq_eq_false_iff_ne]; exact hr
      clear hr0 hr1 hr hg3
      go_wp2_with fail
      refine (l01Next_any _ S z _ hS3 (by omega)).mono ?_
      rintro e w5 ⟨r, rfl, hr0, hr1, hS5, hg5⟩
      go_wp2_with fail
      go_ret
      exact ⟨r, rfl, by omega, hS5, keeps_trans hb3.out hg5⟩
end Go.Proofs.Ytjdnaoidlblciaa
