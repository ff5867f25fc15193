/-
  Contracts: powers, inverses and logarithms of elements, by the reference and by the program.
  Conditions: none.
-/
import Derived.Test.YtjdnaoidlblciaaFieldMul
set_option linter.unusedVariables false
namespace Go.Proofs.Ytjdnaoidlblciaa
open Go.RowKit Go.G8
theorem cell3 {w1 w2 : World} {b : Nat} {x1 x2 x3 : Value} (hb : Below w1.heap.size w1 w2) (hlt : b < w1.heap.size) (c1 : w1.cell? ⟨b, 0, none⟩ = some x1) (c2 : w1.cell? ⟨b, 1, none⟩ = some x2) (c3 : w1.cell? ⟨b, 2, none⟩ = some x3) :
    w2.cell? ⟨b, 0, none⟩ = some x1 ∧ w2.cell? ⟨b, 1, none⟩ = some x2 ∧ w2.cell? ⟨b, 2, none⟩ = some x3 := by
  obtain ⟨hcc, hff⟩ := bcell hb
  exact ⟨(hcc b 0 hlt).trans c1, (hcc b 1 hlt).trans c2, (hcc b 2 hlt).trans c3⟩
theorem codeF_zero1 {p q y a : Int} (h : codeF p q y [a] = 0) : fieldB p q y = true ∧ 0 ≤ a ∧ a ≤ fsize p q - 1 := codeF_zero h
theorem FieldFacts.pow {p q y : Int} {N : Nat} {t : Int → Int} (F : FieldFacts p q y N t) (i n : Nat) (hn : n < 2 ^ 40) : powG (fMul p q y) 40 1 (seqT t i) n = seqT t (i * n) := by
  have := powG_seq (m := fMul p q y) (t := t) F.mul 40 0 i n hn
  rw [Nat.zero_add] at this
  exact this
theorem FieldFacts.inv {p q y : Int} {N : Nat} {t : Int → Int} (F : FieldFacts p q y N t) {i : Nat} (hi : i < N) : powG (fMul p q y) 40 1 (seqT t i) (N - 1) = seqT t ((N - i) % N) := by
  have hN := F.small
  rw [F.pow i (N - 1) (by omega), seqT_mod F.ok]
  rcases Nat.eq_zero_or_pos i with h0 | h0
  · subst h0
    rw [Nat.zero_mul, Nat.sub_zero]
    have := seqT_per F.ok 0
    rw [Nat.zero_add] at this
    exact this.symm
  · have e : i * (N - 1) = (N - i) + N * (i - 1) := by
      obtain ⟨k, rfl⟩ : ∃ k, i = k + 1 := ⟨i - 1, by omega⟩
      obtain ⟨m, rfl⟩ : ∃ m, N = m + 1 := ⟨N - 1, by omega⟩
      rw [show m + 1 - 1 = m by omega, show k + 1 - 1 = k by omega, Nat.add_mul, Nat.add_mul, Nat.mul_comm m k]
      omega
    rw [e, seqT_perk F.ok]
set_option maxHeartbeats 1000000 in
theorem calcPower (g n : Nat) (p q y : Int) (m : Bool) (w : World) (h : fieldB p q y = true) (hn : n ≤ 2000000000)
    (ht : Tab 87 w g m (fsize p q) (expT (tF p q y) (fN p q)) (logT (tF p q y) (fN p q))) :
    Calls Try.prog 71 #[.pointer (some ⟨g, 0, none⟩), .int .i64 n] w (RetQ (.int .i64 (seqT (tF p q y) n)) w) := by
  have F := field_facts h
  have hs := F.size
  have hN := F.small
  have hsz := ht.size_
  have c3 := ht.exp_ (i := n % fN p q) (by have := Nat.mod_lt n (show fN p q > 0 by omega); omega)
  rw [expT_at (Nat.mod_lt _ (by omega)), seqT_mod F.ok] at c3
  obtain ⟨v, hv⟩ : ∃ v, seqT (tF p q y) n = v := ⟨_, rfl⟩
  rw [hv] at c3 ⊢
  rw [← hs] at hsz
  obtain ⟨N, eN⟩ : ∃ N, fN p q = N := ⟨_, rfl⟩
  rw [eN] at hsz c3 hN
  have hN2 := hN.2
  have hN1 := hN.1
  clear F ht hv hs hN eN h
  have w2 : IntKind.i64.wrap (N : Int) = (N : Int) := IntWalk.i64_in _ (by omega)
  have b5 : (0 : Int) ≤ (n : Int) := by omega
  have b6 : (0 : Int) < (N : Int) := by omega
  have b7 : ¬ N = 0 := by omega
  have hK : n % N < N := Nat.mod_lt _ (by omega)
  have w3 : (n : Int).tmod (N : Int) = ((n % N : Nat) : Int) := by rw [Int.tmod_eq_emod_of_nonneg b5, Int.natCast_emod]
  obtain ⟨K, eK⟩ : ∃ K, n % N = K := ⟨_, rfl⟩
  rw [eK] at c3 w3 hK
  have b8 : (0 : Int) ≤ (K : Int) := by omega
  have b9 : (K : Int) < 1021 := by omega
  clear eK
  go_enter Try.func71, Try.ntmps71
  go_wp2
  go_quiet (fail)
  go_wp2
  go_ret
  exact ⟨rfl, _, rfl⟩
end Go.Proofs.Ytjdnaoidlblciaa
