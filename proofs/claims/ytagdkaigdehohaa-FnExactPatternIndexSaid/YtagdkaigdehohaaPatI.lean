/-
  Contracts: the index of a pattern, by the reference.
  Conditions: none.
-/
import Derived.Test.YtagdkaigdehohaaPatD
import Derived.Test.YtagdkaigdehohaaBits
set_option linter.unusedVariables false
namespace Go.Proofs.Ytagdkaigdehohaa
open Go.RowKit Go.G8
/-- The first index at which a list of lists holds a list. -/
def find0 (vs : List Int) : List (List Int) → Nat → Option Nat
  | [], _ => none
  | r :: rs, k => if r = vs then some k else find0 vs rs (k + 1)
def rPatternIndex (vs : List Int) : Int × Int := match find0 vs allP 0 with | none => (0, 4) | some k => (k, 0)
theorem find0_step {vs r : List Int} {rs : List (List Int)} {k : Nat} (j : Nat) (hr : rs[k]? = some r) : find0 vs (rs.drop k) j = if r = vs then some j else find0 vs (rs.drop (k + 1)) (j + 1) := by
  obtain ⟨hk, rfl⟩ := List.getElem?_eq_some_iff.1 hr
  rw [List.drop_eq_getElem_cons hk]
  rfl
theorem l05Same_any (a b : Option Addr) (n m c d : Nat) (xs ys : List Int) (w : World) (ha : Rd .i64 w a n xs) (hb : Rd .i64 w b m ys) (hn : n ≤ 1000000000) (hm : m ≤ 1000000000) :
    Calls Try.prog 76 #[.slice a n c, .slice b m d] w (Ret (.bool (decide (xs = ys))) w) := by
  have HL := Lib.hid ha.len
  have HM := Lib.hid hb.len
  by_cases hnm : n = m
  · subst hnm
    have hne : ((n : Int) != (n : Int)) = false := by simp
    go_enter Try.func76, Try.ntmps76
    go_wp2
    go_loopw [5] (fun i wr => ∃ k j : Nat, k ≤ n ∧ i = .int .i64 k ∧ wr = w.drewN j ∧ Hid (xs.take k = ys.take k)) (fun i _ => n - (intOf i).toNat)
    case atStart => exact ⟨0, 0, Nat.zero_le _, rfl, rfl, rfl⟩
    case round =>
      obtain ⟨k, j, hk, rfl, rfl, heq⟩ := hrel
      by_cases hlt : k < n
      · obtain ⟨b1, o1, x, rfl, -, hc1, hx, hx1, hx2⟩ := ha.at_ hlt
        obtain ⟨b2, o2, y, rfl, -, hc2, hy, -, -⟩ := hb.at_ hlt
        have hl1 : (0 : Int) ≤ (k : Int) := by omega
        have hl2 : (k : Int) < (n : Int) := by omega
        by_cases hxy : x = y
        · subst hxy
          have hxx : (x != x) = false := by simp
          have heq2 := Lib.hid (show xs.take (k + 1) = ys.take (k + 1) by rw [take_snoc hx.out, take_snoc hy.out, heq.out])
          go_wp2
          go_quiet (fail)
          go_wp2
          go_roundw
          case rel => exact ⟨k + 1, _, by omega, by go_num, rfl, heq2⟩
          case measure => simp [intOf]; omega
        · have hxx : (x != y) = true := by rw [bne_iff_ne]; exact hxy
          have hr := Lib.hid (show decide (xs = ys) = false from decide_eq_false (fun e => hxy (by
            have h1 := hx.out
            rw [e, hy.out] at h1
            exact (Option.some.inj h1).symm)))
          clear hxy
          go_wp2
          go_quiet (fail)
          go_wp2
          go_ret
          exact ⟨ret_bool hr.out.symm, below_drewN (below_drewN (Below.refl _ _) _) _⟩
      · obtain rfl : k = n := by omega
        have hr := Lib.hid (show decide (xs = ys) = true from decide_eq_true (by
          have := heq.out
          rwa [List.take_of_length_le (by rw [HL.out]; exact Nat.le_refl _), List.take_of_length_le (by rw [HM.out]; exact Nat.le_refl _)] at this))
        go_wp2
        go_ret
        exact ⟨ret_bool hr.out.symm, below_drewN (Below.refl _ _) _⟩
  · have hne : ((n : Int) != (m : Int)) = true := by rw [bne_iff_ne]; omega
    have hr := Lib.hid (show decide (xs = ys) = false from decide_eq_false (fun e => hnm (by rw [← HL.out, ← HM.out, e])))
    clear hnm
    go_enter Try.func76, Try.ntmps76
    go_wp2
    go_ret
    exact ⟨ret_bool hr.out.symm, Below.refl _ _⟩
set_option maxHeartbeats 1000000 in
set_option maxRecDepth 20000 in
theorem specPatternIndex_any (a : Option Addr) (n k : Nat) (vs : List Int) (w : World) (h : Rd .i64 w a n vs) (hn : n ≤ 1000000000) :
    Calls Try.prog 36 #[.slice a n k] w (Ret (.tuple #[.int .i64 (rPatternIndex vs).1, .int .i64 (rPatternIndex vs).2]) w) := by
  go_enter Try.func36, Try.ntmps36
  go_wp2_with fail
  refine (l17All_any _).mono ?_
  rintro e w1 ⟨a1, n1, k1, us, rfl, hP, hb1⟩
  have hn1 := prv_len hP
  rw [allP_len] at hn1
  have hR := h.to hb1
  go_wp2_with fail
  go_loopw [5] (fun i wr => ∃ j : Nat, j ≤ n1 ∧ i = .int .i64 j ∧ Hid (find0 vs (allP.drop j) j = find0 vs allP 0) ∧ PRV w.heap.size wr a1 n1 k1 us allP ∧ Rd .i64 wr a n vs ∧ Below w.heap.size w wr) (fun i _ => n1 - (intOf i).toNat)
  case atStart => exact ⟨0, Nat.zero_le _, rfl, rfl, hP, hR, hb1⟩
  case round =>
    clear hP hR hb1
    obtain ⟨j, hj, rfl, hfd, hP, hR, hB⟩ := hrel
    by_cases hlt : j < n1
    · have b1 : (0 : Int) ≤ (j : Int) := by omega
      have b2 : (j : Int) < (n1 : Int) := by omega
      obtain ⟨r, hr⟩ : ∃ r, allP[j]? = some r := ⟨_, List.getElem?_eq_getElem (by rw [allP_len]; omega)⟩
      obtain ⟨b, m, d, hus, hox⟩ := hP.2.2 j r hr
      obtain ⟨g, rfl, hg1, hg2⟩ := hP.1.form (by omega)
      have hcr := hP.1.cellAt hus
      have hpw := allP_row r (List.mem_of_getElem? hr)
      have hm := hox.len
      obtain rfl : m = 8 := hm.symm.trans hpw.1
      have hrx := hox.rd (fun x hx => by have := hpw.2 x hx; show -9223372036854775808 ≤ x ∧ x ≤ 9223372036854775807; omega)
      have hst := Lib.hid (find0_step (vs := vs) j hr)
      clear hus hox hr hpw
      go_wp2_with fail
      refine (l05Same_any b a 8 n d k r vs _ hrx hR (by omega) hn).mono ?_
      rintro e w2 ⟨rfl, hb2⟩
      have hP2 := prv_keep hP hb2
      have hR2 := hR.to hb2
      have hB2 := bt hB hb2
      clear hb2 hP hR hB hrx hcr
      by_cases hrv : r = vs
      · have hres := Lib.hid (show rPatternIndex vs = ((j : Int), 0) by
          unfold rPatternIndex
          rw [← hfd.out, hst.out, if_pos hrv])
        rw [decide_eq_true hrv]
        clear hrv
        go_wp2_with fail
        go_ret2
        exact ⟨ret2_int hres.out, hB2⟩
      · have hfd2 := Lib.hid (show find0 vs (allP.drop (j + 1)) (j + 1) = find0 vs allP 0 by rw [← hfd.out, hst.out, if_neg hrv])
        rw [decide_eq_false hrv]
        clear hrv
        go_wp2_with fail
        go_roundw
        case rel => exact ⟨j + 1, by omega, by go_num, hfd2, hP2, hR2, hB2⟩
        case measure => simp [intOf]; omega
    · obtain rfl : j = n1 := by omega
      have hres := Lib.hid (show rPatternIndex vs = (0, 4) by
        unfold rPatternIndex
        rw [← hfd.out, List.drop_of_length_le (by rw [allP_len]; omega)]
        rfl)
      go_wp2_with fail
      go_ret2
      exact ⟨ret2_int hres.out, hB⟩
end Go.Proofs.Ytagdkaigdehohaa
