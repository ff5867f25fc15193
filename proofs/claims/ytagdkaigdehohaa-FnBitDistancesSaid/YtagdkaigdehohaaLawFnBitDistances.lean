/-
  The law FnBitDistances holds at every input.
  Conditions: none.
-/
import Derived.Test.YtagdkaigdehohaaDrawD
import Derived.Test.YtagdkaigdehohaaBitLaws
import Derived.Test.YtagdkaigdehohaaLib
set_option linter.unusedVariables false
namespace Go.Proofs.Ytagdkaigdehohaa
open Go.RowKit Go.G8
theorem pairCode_is (xs ys : List Int) : pairCode xs ys = 0 ∨ pairCode xs ys = 1 ∨ pairCode xs ys = 5 := by
  unfold pairCode
  split
  · simp
  · split <;> simp
theorem sum_bits {xs : List Int} (h : ∀ x ∈ xs, x = 0 ∨ x = 1) : 0 ≤ xs.sum ∧ xs.sum ≤ xs.length := by
  induction xs with
  | nil => simp
  | cons x xs ih =>
    have := ih (fun y hy => h y (by simp [hy]))
    have := h x (by simp)
    simp only [List.sum_cons, List.length_cons]
    omega
theorem sum_snoc {xs : List Int} {k : Nat} {x : Int} (hx : xs[k]? = some x) : (xs.take (k + 1)).sum = (xs.take k).sum + x := by
  rw [take_snoc hx]
  simp
set_option maxHeartbeats 1000000 in
set_option maxRecDepth 20000 in
theorem law_FnBitDistances (a : Option Addr) (n c : Nat) (xs : List Int) (w : World) (h : Rd .u8 w a n xs) :
    Calls Try.prog 13 #[.slice a n c] w (Ret (.bool true) w) := by
  by_cases hbig : 4096 < n
  · go_enter Try.func13, Try.ntmps13
    go_wp2_with fail
    refine (big_any a n c _).mono ?_
    rw [decide_eq_true (by omega)]
    rintro e w1 ⟨rfl, rfl⟩
    go_wp2_with fail
    go_ret
    exact ⟨rfl, Below.refl _ _⟩
  · have hn : n ≤ 4096 := by omega
    go_enter Try.func13, Try.ntmps13
    go_wp2_with fail
    refine (big_any a n c _).mono ?_
    rw [decide_eq_false (by omega)]
    rintro e w1 ⟨rfl, rfl⟩
    go_wp2_with fail
    refine (drawBitDistance_any a n c xs _ h hn).mono ?_
    rintro e w1 ⟨a1, n1, c1, ys, a2, n2, c2, zs, rfl, hn1, hn2, hfy, hfz, ho1, ho2, hb1⟩
    clear hbig h
    have hR1 := ho1.rd hfy
    have hR2 := ho2.rd hfz
    have hl1 := ho1.len
    clear ho1 ho2
    have HX := Lib.hid (fun w h1 h2 => implXorBits_any a1 n1 c1 ys a2 n2 c2 zs w h1 (by omega) h2 (by omega))
    by_cases hp : pairCode ys zs = 0
    · obtain ⟨p1, p2, p3, p4, p5⟩ := xor_law hp
      have hbd : rBitDistance ys zs = (dist ys zs, 0) := by unfold rBitDistance; rw [if_pos hp]
      have hxb : rXorBits ys zs = (xorL ys zs, 0) := by unfold rXorBits; rw [if_pos hp]
      have hxc : rXorBits (xorL ys zs) zs = (ys, 0) := by unfold rXorBits; rw [if_pos p1, p2]
      have hbit := xorL_bit ys zs
      obtain ⟨D, hD⟩ : ∃ D, dist ys zs = D := ⟨_, rfl⟩
      obtain ⟨us, hu⟩ : ∃ us, xorL ys zs = us := ⟨_, rfl⟩
      rw [hu] at hxb hxc hbit p3 p4
      rw [hD] at hbd p3
      rw [hxb] at HX
      clear p1 p2 hu hD
      have hDD : (D != D) = false := by simp
      go_wp2_with fail
      refine (implBitDistance_any a1 n1 c1 ys a2 n2 c2 zs _ hR1 (by omega) hR2 (by omega)).mono ?_
      rw [hbd]
      rintro e w2 ⟨rfl, hb2⟩
      have hB2 := bt hb1 hb2
      replace hR1 := hR1.to hb2
      replace hR2 := hR2.to hb2
      clear hb1 hb2
      go_wp2_with fail
      refine (specBitDistance_any a1 n1 c1 ys a2 n2 c2 zs _ hR1 (by omega) hR2 (by omega)).mono ?_
      rw [hbd]
      rintro e w3 ⟨rfl, hb3⟩
      have hB3 := bt hB2 hb3
      replace hR1 := hR1.to hb3
      replace hR2 := hR2.to hb3
      clear hB2 hb3 hbd
      go_wp2_with fail
      refine (HX.out _ hR1 hR2).mono ?_
      rintro e w4 ⟨a4, n4, c4, rfl, ho4, hb4⟩
      have hB4 := bt hB3 hb4
      replace hR1 := hR1.to hb4
      replace hR2 := hR2.to hb4
      have hR4 := ho4.rd (fun x hx => bits_fits (hbit x hx))
      have hl4 := ho4.len
      clear hB3 hb4 ho4 HX hxb
      have HXC := Lib.hid hxc
      clear hxc
      go_wp2_with fail
      have hsb := sum_bits hbit
      have HBit := Lib.hid hbit
      clear hbit
      go_loop [11, 12] (fun t i => ∃ k : Nat, k ≤ n4 ∧ i = .int .i64 k ∧ t = .int .i64 (us.take k).sum ∧ 0 ≤ (us.take k).sum ∧ (us.take k).sum ≤ k) (fun _ i => n4 - (intOf i).toNat)
      case atStart => exact ⟨0, Nat.zero_le _, rfl, by simp, by simp, by simp⟩
      case round =>
        obtain ⟨k, hk, rfl, rfl, hs0, hs1⟩ := hrel
        by_cases hlt : k < n4
        · obtain ⟨b, o, x, rfl, -, hcx, hx, hx1, hx2⟩ := hR4.at_ hlt
          have hxb := HBit.out x (List.mem_of_getElem? hx.out)
          have hsum := Lib.hid (sum_snoc hx.out)
          have hs2 : 0 ≤ (us.take k).sum + x ∧ (us.take k).sum + x ≤ (k : Int) + 1 := by omega
          obtain ⟨hs3, hs4⟩ := hs2
          have e1 : IntKind.i64.wrap ((us.take k).sum + x) = (us.take k).sum + x := IntWalk.i64_in _ (by omega)
          clear hxb
          go_wp2
          go_round
          case rel => exact ⟨k + 1, by omega, by go_num, by rw [hsum.out], by rw [hsum.out]; exact hs3, by rw [hsum.out]; omega⟩
          case measure => simp [intOf]; omega
        · obtain rfl : k = n4 := by omega
          have htk : us.take k = us := List.take_of_length_le (by omega)
          rw [htk, p3]
          have hDD2 : (D == D) = true := by simp
          go_wp2_with fail
          refine (implXorBits_any a4 k c4 us a2 n2 c2 zs _ hR4 (by omega) hR2 (by omega)).mono ?_
          rw [HXC.out]
          rintro e w5 ⟨a5, n5, c5, rfl, ho5, hb5⟩
          have hB5 := bt hB4 hb5
          replace hR1 := hR1.to hb5
          have hR5 := ho5.rd hfy
          have hl5 := ho5.len
          clear hb5 ho5 hB4 htk
          go_wp2_with fail
          refine (likeInts_same a5 a1 n5 n1 c5 c1 ys _ hR5 hR1 (by omega)).mono ?_
          rintro e w6 ⟨rfl, hq6⟩
          have hB6 := bt hB5 (below_q hq6)
          go_wp2_with fail
          go_ret
          exact ⟨rfl, hB6⟩
    · have hbd : rBitDistance ys zs = (0, pairCode ys zs) := by unfold rBitDistance; rw [if_neg hp]
      have hxb : rXorBits ys zs = ([], pairCode ys zs) := by unfold rXorBits; rw [if_neg hp]
      obtain ⟨P, hP⟩ : ∃ P, pairCode ys zs = P := ⟨_, rfl⟩
      rw [hP] at hp hbd hxb
      rw [hxb] at HX
      have d0 : (P != 0) = true := by rw [bne_iff_ne]; exact hp
      have d1 : (P != P) = false := by simp
      have d2 : (P == P) = true := by simp
      clear hp hP
      go_wp2_with fail
      refine (implBitDistance_any a1 n1 c1 ys a2 n2 c2 zs _ hR1 (by omega) hR2 (by omega)).mono ?_
      rw [hbd]
      rintro e w2 ⟨rfl, hb2⟩
      have hB2 := bt hb1 hb2
      replace hR1 := hR1.to hb2
      replace hR2 := hR2.to hb2
      clear hb1 hb2
      go_wp2_with fail
      refine (specBitDistance_any a1 n1 c1 ys a2 n2 c2 zs _ hR1 (by omega) hR2 (by omega)).mono ?_
      rw [hbd]
      rintro e w3 ⟨rfl, hb3⟩
      have hB3 := bt hB2 hb3
      replace hR1 := hR1.to hb3
      replace hR2 := hR2.to hb3
      clear hB2 hb3 hbd
      go_wp2_with fail
      refine (HX.out _ hR1 hR2).mono ?_
      rintro e w4 ⟨a4, n4, c4, rfl, ho4, hb4⟩
      have hB4 := bt hB3 hb4
      obtain rfl : n4 = 0 := by have := ho4.len; simpa using this.symm
      clear hB3 hb4 ho4
      go_wp2_with fail
      go_ret
      exact ⟨rfl, hB4⟩
end Go.Proofs.Ytagdkaigdehohaa
