/-
  Plain facts: what a part that was read answers.
  Conditions: none.
-/
import Derived.Test.YtnajjofaijpciaaDecPart
import Derived.Test.YtnajjofaijpciaaSmallD
set_option linter.unusedVariables false
namespace Go.Proofs.Ytnajjofaijpciaa
open Go.RowKit Go.G8
theorem part_num3 {xs : List Int} (h : ∀ x ∈ xs, x = 0 ∨ x = 1) (i : Nat) : 0 ≤ num (bpart xs i 3) ∧ num (bpart xs i 3) ≤ 7 := by
  have h1 := num_bd (bpart xs i 3) (part_bits h i 3)
  have h2 : (bpart xs i 3).length ≤ 3 := by unfold bpart; exact List.length_take_le 3 (xs.drop i)
  have h3 : (2 : Int) ^ (bpart xs i 3).length ≤ 2 ^ 3 := by
    have := Nat.pow_le_pow_right (n := 2) (by omega) h2
    exact_mod_cast this
  have h4 : (2 : Int) ^ 3 = 8 := by decide
  omega
theorem tailP_good {bs : List Int} {at_ : Nat} {ix ct : Int} {pr : Option Int} (hx : ∀ x ∈ bs, x = 0 ∨ x = 1) (hat : at_ ≤ bs.length) (hc : 1 ≤ ct ∧ ct ≤ 8) (hi : 0 ≤ ix ∧ ix ≤ ct - 1) (hp : ∀ v, pr = some v → 0 ≤ v ∧ v ≤ 255) (h : (tailP bs at_ ix ct pr).2 = 0) :
    isPart (tailP bs at_ ix ct pr).1.ix (tailP bs at_ ix ct pr).1.ct (tailP bs at_ ix ct pr).1.pr (tailP bs at_ ix ct pr).1.tx = true := by
  unfold tailP at h ⊢
  split at h
  · rename_i h0
    rw [if_pos h0]
    obtain ⟨k1, -, -, -⟩ := segsL_bd hx (bs.length + 1) at_ 0 [] rfl (by omega) (by simp) hat
    rw [← joinI_len, ← strOfNums_size] at k1
    have hpr : 0 ≤ pr.getD (parity (strI (strOfNums (joinI (segsL bs (bs.length + 1) at_ 0 []).1)))) ∧ pr.getD (parity (strI (strOfNums (joinI (segsL bs (bs.length + 1) at_ 0 []).1)))) ≤ 255 := by
      rcases pr with _ | v
      · exact parity_bd _
      · exact hp v rfl
    unfold isPart
    simp only [Bool.and_eq_true, decide_eq_true_eq]
    exact ⟨⟨⟨hc, hi⟩, hpr⟩, k1⟩
  · rename_i h0
    exact absurd h h0
theorem rPart_good {p q y : Int} {xs : List Int} (h : (rPart p q y xs).2 = 0) : isPart (rPart p q y xs).1.ix (rPart p q y xs).1.ct (rPart p q y xs).1.pr (rPart p q y xs).1.tx = true := by
  obtain ⟨h1, h2⟩ := rElementBits_bits p q y xs
  unfold rPart at h ⊢
  split at h
  · rename_i he
    rw [if_pos he]
    obtain ⟨bs, hbs⟩ : ∃ bs, (rElementBits p q y xs).1 = bs := ⟨_, rfl⟩
    rw [hbs] at h h1 h2 ⊢
    clear hbs he
    unfold rBitsPart at h ⊢
    split at h
    · rename_i hh
      rw [if_pos hh]
      split at h
      · exact absurd h (by simp)
      · rename_i h17
        rw [if_neg h17]
        split at h
        · exact absurd h (by simp)
        · rename_i hlt
          rw [if_neg hlt]
          obtain ⟨a1, a2⟩ := part_num3 h2 3
          obtain ⟨b1, b2⟩ := part_num3 h2 6
          obtain ⟨c1, c2⟩ := part_num8 h2 9
          exact tailP_good h2 (by omega) (by omega) (by omega) (fun v hv => by injection hv with hv; subst hv; omega) h
    · rename_i hh
      rw [if_neg hh]
      exact tailP_good h2 (by omega) (by omega) (by omega) (fun v hv => by cases hv) h
  · rename_i he
    exact absurd h he
theorem rPart_own {p q y : Int} {xs : List Int} (h : (rPart p q y xs).2 = 0) (hd : (rDecode p q y xs).2 = 0) : (rPart p q y xs).1 = ⟨0, 1, parity (strI (rDecode p q y xs).1), (rDecode p q y xs).1⟩ := by
  obtain ⟨h1, h2⟩ := rElementBits_bits p q y xs
  unfold rDecode at hd ⊢
  split at hd
  · rename_i hp
    rw [if_pos hp]
    unfold rPay at hp ⊢
    split at hp
    · rename_i he
      rw [if_pos he]
      unfold rPart
      rw [if_pos he]
      obtain ⟨bs, hbs⟩ : ∃ bs, (rElementBits p q y xs).1 = bs := ⟨_, rfl⟩
      rw [hbs] at hp h2 ⊢
      unfold rBitsPart
      split
      · rename_i hh
        exfalso
        have hs : rSeg bs 0 = none := by
          unfold rSeg
          split
          · rfl
          · rw [if_neg (by rw [hh.2]; omega)]
        rw [segsL, if_pos ⟨by omega, by rw [hh.2]; decide⟩, hs] at hp
        exact absurd hp (by simp)
      · unfold tailP
        rw [if_pos hp]
        rfl
    · rename_i he
      exact absurd hp he
  · rename_i hp
    exact absurd hd hp
end Go.Proofs.Ytnajjofaijpciaa
