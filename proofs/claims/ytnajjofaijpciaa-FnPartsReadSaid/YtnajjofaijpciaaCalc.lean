/-
  Contracts of the filling of the tables of a field's arithmetic, for numbers modulo a prime and for bits modulo a polynomial.
  Conditions: sizes of at most 1021.
-/
import Derived.Test.YtnajjofaijpciaaMg3
set_option linter.unusedVariables false
namespace Go.Proofs.Ytnajjofaijpciaa
open Go.RowKit Go.G8

def tP (p g x : Int) : Int := x * g % p
theorem primeStep_any (bg bp : Nat) (p g x : Int) (w : World) (hp : 3 ≤ p ∧ p ≤ 1021) (hg : 0 ≤ g ∧ g < p) (hx : 0 ≤ x ∧ x < p) (hcg : w.cell? ⟨bg, 0, none⟩ = some (.int .i64 g)) (hcp : w.cell? ⟨bp, 0, none⟩ = some (.int .i64 p)) :
    Calls Try.prog 93 #[.int .i64 x, .pointer (some ⟨bg, 0, none⟩), .pointer (some ⟨bp, 0, none⟩)] w (RetS (.int .i64 (tP p g x)) w) := by
  obtain ⟨hp1, hp2⟩ := hp
  obtain ⟨hg1, hg2⟩ := hg
  obtain ⟨hx1, hx2⟩ := hx
  have hm1 : 0 ≤ x * g := Int.mul_nonneg hx1 hg1
  have hm2 : x * g ≤ 1021 * 1021 := Int.mul_le_mul (by omega) (by omega) hg1 (by omega)
  go_enter Try.func93, Try.ntmps93
  go_wp2
  go_ret
  exact ⟨rfl, rfl⟩

set_option maxHeartbeats 1000000 in
theorem fillP (g : Nat) (b : Bool) (N : Nat) (bg bp : Nat) (p gen : Int) (w : World) (hN : 2 ≤ N ∧ N ≤ 1020) (ht : Tab 113 w g b ((N : Int) + 1) (fun _ => 0) (fun _ => 0)) (hbg : bg < g) (hbp : bp < g) (hp : p = (N : Int) + 1) (hgen : 0 ≤ gen ∧ gen < p) (hcg : w.cell? ⟨bg, 0, none⟩ = some (.int .i64 gen)) (hcp : w.cell? ⟨bp, 0, none⟩ = some (.int .i64 p)) :
    Calls Try.prog 81 #[.pointer (some ⟨g, 0, none⟩), .func (Fn.func 93) #[] #[.pointer (some ⟨bg, 0, none⟩), .pointer (some ⟨bp, 0, none⟩)]] w (Filled 113 (tP p gen) N g b ((N : Int) + 1) w) := by
  obtain ⟨hN1, hN2⟩ := hN
  have hts := ht.size_
  obtain ⟨hgen1, hgen2⟩ := hgen
  have hT : ∀ x, 0 ≤ x → x < (N : Int) + 1 → 0 ≤ tP p gen x ∧ tP p gen x < (N : Int) + 1 := by
    intro x _ _
    have h1 := Int.emod_nonneg (x * gen) (show p ≠ 0 by omega)
    have h2 := Int.emod_lt_of_pos (x * gen) (show 0 < p by omega)
    unfold tP
    omega
  have HCG0 := Lib.hid hcg
  have HCP0 := Lib.hid hcp
  have HP := Lib.hid hp
  have hp3 : 3 ≤ p := by omega
  have hp4 : p ≤ 1021 := by omega
  have hp5 : p ≤ (N : Int) + 1 := by omega
  have hp6 : (N : Int) + 1 ≤ p := by omega
  clear hp
  go_enter Try.func81, Try.ntmps81
  go_wp2
  go_loopw [5, 6] (fun x n wr => ∃ k : Nat, k ≤ N ∧ n = .int .i64 k ∧ x = .int .i64 (seqT (tP p gen) k) ∧ Tab 113 wr g b ((N : Int) + 1) (expT (tP p gen) k) (logT (tP p gen) k) ∧ Hid (goodT (tP p gen) k = true) ∧ w.grownBy wr (some g)) (fun _ n _ => N - (intOf n).toNat)
  case atStart => exact ⟨0, Nat.zero_le _, rfl, rfl, by rw [expT_zero]; exact ht, rfl, World.grownBy.refl _ _⟩
  case round =>
    clear hts
    obtain ⟨k, hk, rfl, rfl, htab, hgood, hg⟩ := hrel
    obtain ⟨hx1, hx2⟩ := seqT_range (t := (tP p gen)) (size := (N : Int) + 1) (by omega) hT k
    have hs := htab.size_
    have hf := htab.free
    have hS : Hid (seqT (tP p gen) (k + 1) = (tP p gen) (seqT (tP p gen) k)) := rfl
    obtain ⟨y, hy⟩ : ∃ y, seqT (tP p gen) k = y := ⟨_, rfl⟩
    have HY := Lib.hid hy
    rw [hy] at hx1 hx2 hS ⊢
    clear hy
    by_cases hlt : k < N
    · by_cases hz : y = 0
      · have hr := Lib.hid (okT_bad (t := (tP p gen)) hlt (.inl (by rw [HY.out]; exact hz)))
        have hzb : (y == 0) = true := by rw [beq_iff_eq]; exact hz
        clear hz
        go_wp2
        go_ret
        exact ⟨_, _, ret_bool hr.out.symm, htab, fun h => by (rw [hr.out] at h; cases h), hg⟩
      · by_cases h1 : 0 < k ∧ y = 1
        · have hr := Lib.hid (okT_bad (t := (tP p gen)) hlt (.inr ⟨h1.1, by rw [HY.out]; exact h1.2⟩))
          have hzb : (y == 0) = false := by rw [beq_eq_false_iff_ne]; exact hz
          have hob : (y == 1) = true := by rw [beq_iff_eq]; exact h1.2
          have hk0 : 0 < (k : Int) := by omega
          clear hz h1
          go_wp2
          go_ret
          exact ⟨_, _, ret_bool hr.out.symm, htab, fun h => by (rw [hr.out] at h; cases h), hg⟩
        · have hgd := Lib.hid (goodT_succ hgood.out (by rw [HY.out]; exact hz) (by rw [HY.out]; omega))
          have hzb : (y == 0) = false := by rw [beq_eq_false_iff_ne]; exact hz
          obtain ⟨yn, rfl⟩ := Int.eq_ofNat_of_zero_le hx1
          have hyn : yn < 1021 := by omega
          have he := htab.exp_ (i := k) (by omega)
          have htab2 := htab.setE (n := k) (by omega) (yn : Int)
          have hl := htab2.log_ (i := yn) hyn
          have hf2 := htab2.free
          have htab3 := htab2.setL (n := yn) hyn (k : Int)
          have hcg3 : ((wr.setCell ⟨g, 2 + k, none⟩ (.int .i64 (yn : Int))).setCell ⟨g, 1023 + yn, none⟩ (.int .i64 (k : Int))).cell? ⟨bg, 0, none⟩ = some (.int .i64 gen) := by
            rw [World.cell?_setCell_other _ _ _ _ (by intro e; injection e; omega), World.cell?_setCell_other _ _ _ _ (by intro e; injection e; omega), World.cell?_of_block (hg.block bg (by have := World.block_lt_of_cell? _ _ hcg; exact this) (by intro e; injection e; omega))]; exact hcg
          have hcp3 : ((wr.setCell ⟨g, 2 + k, none⟩ (.int .i64 (yn : Int))).setCell ⟨g, 1023 + yn, none⟩ (.int .i64 (k : Int))).cell? ⟨bp, 0, none⟩ = some (.int .i64 p) := by
            rw [World.cell?_setCell_other _ _ _ _ (by intro e; injection e; omega), World.cell?_setCell_other _ _ _ _ (by intro e; injection e; omega), World.cell?_of_block (hg.block bp (by have := World.block_lt_of_cell? _ _ hcp; exact this) (by intro e; injection e; omega))]; exact hcp
          have HCG := Lib.hid hcg3
          have HCP := Lib.hid hcp3
          clear hcg3 hcp3
          have HT3 := Lib.hid htab3
          clear htab2 htab3
          rcases Nat.eq_zero_or_pos k with hk0 | hk0
          · subst hk0
            clear h1 hz
            go_wp2_with (go_at_call 93; refine (primeStep_any bg bp p gen _ _ (by omega) (by omega) (by omega) HCG.out HCP.out).mono ?_; rintro e w' ⟨rfl, rfl⟩)
            go_roundw
            case rel => exact ⟨1, by omega, by go_num, by rw [hS.out], tab_step HY.out HT3.out, hgd, grown_set (grown_set hg)⟩
            case measure => simp [intOf]; omega
          · have hk1 : 0 < (k : Int) := by omega
            have hob : ((yn : Int) == 1) = false := by rw [beq_eq_false_iff_ne]; omega
            clear h1 hz
            go_wp2_with (go_at_call 93; refine (primeStep_any bg bp p gen _ _ (by omega) (by omega) (by omega) HCG.out HCP.out).mono ?_; rintro e w' ⟨rfl, rfl⟩)
            go_roundw
            case rel => exact ⟨k + 1, by omega, by go_num, by rw [hS.out], tab_step HY.out HT3.out, hgd, grown_set (grown_set hg)⟩
            case measure => simp [intOf]; omega
    · have hk2 : (N : Int) ≤ (k : Int) := by omega
      have HK := Lib.hid (show k = N by omega)
      have hkd : decide (k < N) = false := by simpa using hlt
      go_wp2
      go_ret
      obtain rfl := HK.out
      refine ⟨_, _, ?_, htab, fun h => ⟨rfl, rfl⟩, hg⟩
      refine ret_bool ?_
      unfold okT
      rw [hgood.out, HY.out, Bool.eq_iff_iff]
      simp
end Go.Proofs.Ytnajjofaijpciaa
