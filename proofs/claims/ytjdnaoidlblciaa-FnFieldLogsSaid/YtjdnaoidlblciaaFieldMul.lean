/-
  Contracts: the product of two elements, by the reference and by the program.
  Conditions: none.
-/
import Derived.Test.YtjdnaoidlblciaaMulS
set_option linter.unusedVariables false
namespace Go.Proofs.Ytjdnaoidlblciaa
open Go.RowKit Go.G8
theorem two_blocks (w : World) (A B : Array Value) (T E : TypeId) (xs : List Int) (hB : B = (ints .i64 xs).toArray) (hl : xs.length ≤ 8) (hx : ∀ x ∈ xs, fits .i64 x) :
    Below w.heap.size w ((w.alloc (.cells A T)).alloc (.cells B E)) ∧ Rd .i64 ((w.alloc (.cells A T)).alloc (.cells B E)) (some ⟨w.heap.size + 1, 0, none⟩) xs.length xs ∧
    (∀ i v, A[i]? = some v → ((w.alloc (.cells A T)).alloc (.cells B E)).cell? ⟨w.heap.size, i, none⟩ = some v) ∧ w.heap.size < ((w.alloc (.cells A T)).alloc (.cells B E)).heap.size := by
  subst hB
  refine ⟨Below.alloc (Below.alloc (Below.refl w.heap.size w) (Nat.le_refl _) _) (by simp) _, ?_, fun i v hv => ?_, by simp; omega⟩
  · have h := Ow.lit (K := .i64) (E := E) (xs := xs) (B := (w.alloc (.cells A T)).heap.size) (w.alloc (.cells A T)) (Nat.le_refl _) (by omega)
    have h2 := h.rd hx
    simpa using h2
  · rw [alloc_cell_old _ _ _ _ (by simp), cell_of_row _ _ _ _ _ (0, 0) (heap_alloc_new w _), hv]
theorem fits2 {a b : Int} (ha : -9223372036854775808 ≤ a ∧ a ≤ 9223372036854775807) (hb : -9223372036854775808 ≤ b ∧ b ≤ 9223372036854775807) : ∀ x ∈ [a, b], fits .i64 x := by
  intro x hx
  simp at hx
  rcases hx with rfl | rfl
  · exact ha
  · exact hb
theorem fits1 {a : Int} (ha : -9223372036854775808 ≤ a ∧ a ≤ 9223372036854775807) : ∀ x ∈ [a], fits .i64 x := by
  intro x hx
  simp at hx
  subst hx
  exact ha
def rOf (c v : Int) : Int × Int := if c = 0 then (v, 0) else (0, c)
theorem rOf_zero {c v : Int} (h : c = 0) : rOf c v = (v, 0) := by unfold rOf; rw [if_pos h]
theorem rOf_bad {c v : Int} (h : c ≠ 0) : rOf c v = (0, c) := by unfold rOf; rw [if_neg h]
theorem codeF_zero2 {p q y a b : Int} (h : codeF p q y [a, b] = 0) : fieldB p q y = true ∧ (0 ≤ a ∧ a ≤ fsize p q - 1) ∧ (0 ≤ b ∧ b ≤ fsize p q - 1) := by
  unfold codeF at h
  split at h
  · rename_i h1
    split at h
    · rename_i h2
      simp only [allF, List.all_cons, List.all_nil, Bool.and_true, inF, Bool.and_eq_true, decide_eq_true_eq] at h2
      exact ⟨h1, h2⟩
    · omega
  · omega
set_option maxHeartbeats 1000000 in
theorem calcMul (g : Nat) (p q y a b : Int) (m : Bool) (w : World) (h : fieldB p q y = true) (ha : 0 ≤ a ∧ a ≤ fsize p q - 1) (hb : 0 ≤ b ∧ b ≤ fsize p q - 1)
    (ht : Tab 87 w g m (fsize p q) (expT (tF p q y) (fN p q)) (logT (tF p q y) (fN p q))) :
    Calls Try.prog 68 #[.pointer (some ⟨g, 0, none⟩), .int .i64 a, .int .i64 b] w (RetQ (.int .i64 (fMul p q y a b)) w) := by
  have F := field_facts h
  by_cases h0 : a = 0
  · subst h0
    have hr := Lib.hid (F.left0 b)
    clear F ht
    go_enter Try.func68, Try.ntmps68
    go_wp2
    go_ret
    exact ⟨ret_int hr.out.symm, 0, rfl⟩
  · by_cases h1 : b = 0
    · subst h1
      have hr := Lib.hid (fMul_right0 p q y a)
      have hab : (a == 0) = false := by rw [beq_eq_false_iff_ne]; exact h0
      clear F ht h0
      go_enter Try.func68, Try.ntmps68
      go_wp2
      go_ret
      exact ⟨ret_int hr.out.symm, 0, rfl⟩
    · obtain ⟨i, hi, ea, la⟩ := F.elem ha h0
      obtain ⟨j, hj, eb, lb⟩ := F.elem hb h1
      have hs := F.size
      have hN := F.small
      have hr := Lib.hid (show fMul p q y a b = seqT (tF p q y) ((i + j) % fN p q) by rw [ea, eb, F.mul, seqT_mod F.ok])
      have hab : (a == 0) = false := by rw [beq_eq_false_iff_ne]; exact h0
      have hbb : (b == 0) = false := by rw [beq_eq_false_iff_ne]; exact h1
      obtain ⟨an, rfl⟩ := Int.eq_ofNat_of_zero_le ha.1
      obtain ⟨bn, rfl⟩ := Int.eq_ofNat_of_zero_le hb.1
      have hm : (i + j) % fN p q < fN p q := Nat.mod_lt _ (by omega)
      have hsz := ht.size_
      have c1 := ht.log_ (i := an) (by omega)
      have c2 := ht.log_ (i := bn) (by omega)
      have c3 := ht.exp_ (i := (i + j) % fN p q) (by omega)
      simp only [Int.toNat_natCast] at la lb
      rw [la] at c1
      rw [lb] at c2
      rw [expT_at hm] at c3
      rw [hr.out]
      obtain ⟨v, hv⟩ : ∃ v, seqT (tF p q y) ((i + j) % fN p q) = v := ⟨_, rfl⟩
      rw [hv] at c3 ⊢
      rw [← hs] at hsz
      have hia : i ≤ 1019 := by omega
      have hja : j ≤ 1019 := by omega
      have han : an < 1021 := by omega
      have hbn : bn < 1021 := by omega
      obtain ⟨N, eN⟩ : ∃ N, fN p q = N := ⟨_, rfl⟩
      rw [eN] at hsz c3 hN
      have hN2 := hN.2
      have hN1 := hN.1
      clear F ht hv hr ea eb la lb hs hN h0 h1 ha hb hm hi hj eN h
      go_enter Try.func68, Try.ntmps68
      have b1 : (0 : Int) ≤ (an : Int) := by omega
      have b2 : (an : Int) < 1021 := by omega
      have b3 : (0 : Int) ≤ (bn : Int) := by omega
      have b4 : (bn : Int) < 1021 := by omega
      have w1 : IntKind.i64.wrap ((i : Int) + (j : Int)) = (i : Int) + (j : Int) := IntWalk.i64_in _ (by omega)
      have w2 : IntKind.i64.wrap (N : Int) = (N : Int) := IntWalk.i64_in _ (by omega)
      have b5 : (0 : Int) ≤ (i : Int) + (j : Int) := by omega
      have b6 : (0 : Int) < (N : Int) := by omega
      have b7 : ¬ N = 0 := by omega
      have hK : (i + j) % N < N := Nat.mod_lt _ (by omega)
      have w3 : ((i : Int) + (j : Int)).tmod (N : Int) = (((i + j) % N : Nat) : Int) := by rw [Int.tmod_eq_emod_of_nonneg b5, Int.natCast_emod, Int.natCast_add]
      obtain ⟨K, eK⟩ : ∃ K, (i + j) % N = K := ⟨_, rfl⟩
      rw [eK] at c3 w3 hK
      have b8 : (0 : Int) ≤ (K : Int) := by omega
      have b9 : (K : Int) < 1021 := by omega
      clear eK
      go_wp2
      go_quiet (fail)
      go_wp2
      go_ret
      exact ⟨rfl, _, rfl⟩
theorem fieldMul_spec (p q y a b : Int) (w : World) (ha : -9223372036854775808 ≤ a ∧ a ≤ 9223372036854775807) (hb : -9223372036854775808 ≤ b ∧ b ≤ 9223372036854775807) :
    Calls Try.prog 22 #[.agg #[.int .i64 p, .int .i64 q, .int .i64 y], .int .i64 a, .int .i64 b] w (RetB (.tuple #[.int .i64 (rOf (codeF p q y [a, b]) (fMul p q y a b)).1, .int .i64 (rOf (codeF p q y [a, b]) (fMul p q y a b)).2]) w) := by
  have HH := Lib.hid (two_blocks w #[.int .i64 p, .int .i64 q, .int .i64 y] #[.int .i64 a, .int .i64 b] 26 2 [a, b] rfl (by simp) (fits2 ha hb))
  clear ha hb
  by_cases hz : codeF p q y [a, b] = 0
  · have hr := Lib.hid (rOf_zero (v := fMul p q y a b) hz)
    have hv := Lib.hid (codeF_zero2 hz)
    have HZ := Lib.hid hz
    clear hz
    go_enter Try.func22, Try.ntmps22
    go_wp2_with fail
    obtain ⟨hw1, hrd, hcl, hlt⟩ := HH.out
    have hc0 := hcl 0 _ rfl
    have hc1 := hcl 1 _ rfl
    have hc2 := hcl 2 _ rfl
    clear hcl
    refine (l02Code_any p q y _ 2 2 [a, b] _ (by simpa using hrd) (by omega)).mono ?_
    rw [HZ.out]
    rintro e w1 ⟨rfl, hb1⟩
    obtain ⟨hcc, hff⟩ := bcell hb1
    replace hc0 := (hcc w.heap.size 0 hlt).trans hc0
    replace hc1 := (hcc w.heap.size 1 hlt).trans hc1
    replace hc2 := (hcc w.heap.size 2 hlt).trans hc2
    clear hcc hff hrd
    go_wp2_with fail
    refine (l02Mul_any p q y a b _ hv.out.1 hv.out.2.1 hv.out.2.2).mono ?_
    rintro e w2 ⟨rfl, hb2⟩
    go_wp2_with fail
    go_ret2
    exact ⟨ret2_r hr.out, bt (bt hw1 hb1) hb2⟩
  · have hr := Lib.hid (rOf_bad (v := fMul p q y a b) hz)
    obtain ⟨cd, hcd⟩ : ∃ cd, codeF p q y [a, b] = cd := ⟨_, rfl⟩
    have HZ := Lib.hid hcd
    rw [hcd] at hz hr ⊢
    clear hcd
    have hne : (cd != 0) = true := by rw [bne_iff_ne]; exact hz
    clear hz
    go_enter Try.func22, Try.ntmps22
    go_wp2_with fail
    obtain ⟨hw1, hrd, hcl, hlt⟩ := HH.out
    refine (l02Code_any p q y _ 2 2 [a, b] _ (by simpa using hrd) (by omega)).mono ?_
    rw [HZ.out]
    rintro e w1 ⟨rfl, hb1⟩
    clear hrd hcl
    go_wp2_with fail
    go_ret2
    exact ⟨ret2_r hr.out, bt hw1 hb1⟩
theorem fieldMul_impl (p q y a b : Int) (w : World) (ha : -9223372036854775808 ≤ a ∧ a ≤ 9223372036854775807) (hb : -9223372036854775808 ≤ b ∧ b ≤ 9223372036854775807) :
    Calls Try.prog 21 #[.agg #[.int .i64 p, .int .i64 q, .int .i64 y], .int .i64 a, .int .i64 b] w (RetB (.tuple #[.int .i64 (rOf (codeF p q y [a, b]) (fMul p q y a b)).1, .int .i64 (rOf (codeF p q y [a, b]) (fMul p q y a b)).2]) w) := by
  have HH := Lib.hid (two_blocks w #[.int .i64 p, .int .i64 q, .int .i64 y] #[.int .i64 a, .int .i64 b] 26 2 [a, b] rfl (by simp) (fits2 ha hb))
  clear ha hb
  by_cases hz : codeF p q y [a, b] = 0
  · have hr := Lib.hid (rOf_zero (v := fMul p q y a b) hz)
    have hv := Lib.hid (codeF_zero2 hz)
    have HZ := Lib.hid hz
    clear hz
    go_enter Try.func21, Try.ntmps21
    go_wp2_with fail
    obtain ⟨hw1, hrd, hcl, hlt⟩ := HH.out
    clear hcl
    refine (elements_any p q y _ 2 2 [a, b] _ (by simpa using hrd) (by omega)).mono ?_
    unfold ElemRes
    rw [HZ.out]
    rintro e w1 ⟨o, rfl, hb1, hG⟩
    obtain ⟨G, rfl, hG1, htab⟩ := hG rfl
    go_wp2_with fail
    refine (calcMul G p q y a b _ _ hv.out.1 hv.out.2.1 hv.out.2.2 htab).mono ?_
    rintro e w2 ⟨rfl, hq2⟩
    replace hq2 := below_q hq2
    go_wp2_with fail
    go_ret2
    exact ⟨ret2_r hr.out, bt (bt hw1 hb1) hq2⟩
  · have hr := Lib.hid (rOf_bad (v := fMul p q y a b) hz)
    obtain ⟨cd, hcd⟩ : ∃ cd, codeF p q y [a, b] = cd := ⟨_, rfl⟩
    have HZ := Lib.hid hcd
    rw [hcd] at hz hr ⊢
    clear hcd
    have hne : (cd != 0) = true := by rw [bne_iff_ne]; exact hz
    clear hz
    go_enter Try.func21, Try.ntmps21
    go_wp2_with fail
    obtain ⟨hw1, hrd, hcl, hlt⟩ := HH.out
    clear hcl
    refine (elements_any p q y _ 2 2 [a, b] _ (by simpa using hrd) (by omega)).mono ?_
    unfold ElemRes
    rw [HZ.out]
    rintro e w1 ⟨o, rfl, hb1, hG⟩
    clear hG hrd
    go_wp2_with fail
    go_ret2
    exact ⟨ret2_r hr.out, bt hw1 hb1⟩
end Go.Proofs.Ytjdnaoidlblciaa
