/-
  Texts of the proof, one behind the other: each bears its own heading.
  Conditions: as the headings say.
-/
import Derived.Test.YtnajjofaijpciaaPrL
import Derived.Test.YtnajjofaijpciaaMg31
import Derived.Test.YtnajjofaijpciaaFieldOf
/-
  Contract: the message that the reference draws (some bytes, at most 401).
  Conditions: codes of at most 4096 bytes.
-/
set_option linter.unusedVariables false
namespace Go.Proofs.Ytnajjofaijpciaa
open Go.RowKit Go.G8
def strOf (v : Value) : ByteArray := match v with | .string s => s | _ => ⟨#[]⟩
theorem keeps_refl (w : World) (S : Nat) : w.grownBy w (some S) := keeps_below (Below.refl w.heap.size w)
set_option maxHeartbeats 2000000 in
set_option maxRecDepth 20000 in
theorem l10Draw_any (B S : Nat) (w : World) (h : Src B w S) :
    Calls Try.prog 67 #[.pointer (some ⟨S, 0, none⟩)] w (DrawnT B S 401 w) := by
  obtain ⟨i0, hi, hz0, hz1, hz2⟩ := info_parts info_uint8
  go_enter Try.func67, Try.ntmps67
  go_wp2_with fail
  refine (l01Next_any _ S 4 _ h (by decide)).mono ?_
  rintro e w1 ⟨r, rfl, hr0, hr1, hS1, hg1⟩
  obtain ⟨R, rfl⟩ := Int.eq_ofNat_of_zero_le hr0
  have hR : R ≤ 3 := by omega
  clear hr0 hr1 h
  go_wp2_with fail
  go_loopw [3, 4] (fun o k wr => ∃ (s : ByteArray) (m : Nat), m ≤ 3 ∧ k = .int .i64 m ∧ o = .string s ∧ s.size + 10 * m ≤ 30 ∧ Src B wr S ∧ w.grownBy wr (some S)) (fun _ k _ => (intOf k).toNat)
  case atStart => exact ⟨_, R, hR, rfl, rfl, by show 0 + 10 * R ≤ 30; omega, hS1, hg1⟩
  case round =>
    clear hS1 hg1
    obtain ⟨s, m, hm, rfl, rfl, hs, hS, hK⟩ := hrel
    rcases m with _ | m
    · go_wp2_with fail
      refine (l01Next_any _ S 60 _ hS (by decide)).mono ?_
      rintro e w2 ⟨r, rfl, hr0, hr1, hS2, hg2⟩
      have hK2 := keeps_trans hK hg2
      clear hg2 hS hK
      by_cases hq : r = 0
      · subst hq
        clear hr0 hr1
        go_wp2_with fail
        refine (l01Next_any _ S 2 _ hS2 (by decide)).mono ?_
        rintro e w3 ⟨r, rfl, hr0, hr1, hS3, hg3⟩
        have hK3 := keeps_trans hK2 hg3
        obtain ⟨k, rfl⟩ := Int.eq_ofNat_of_zero_le hr0
        have hk : k ≤ 1 := by omega
        have e1 : IntKind.i64.wrap (400 + (k : Int)) = ((400 + k : Nat) : Int) := (IntWalk.i64_in _ (by omega)).trans (by omega)
        clear hg3 hS2 hK2 hr0 hr1
        go_wp2_with (at_make; refine wpList_make_full _ rfl _ _ 49 rfl w3.heap.size 5 i0 (.int .u8 0) 1 Try.underlying49 hi hz0 hz1 .i64 .i64 _ _ (400 + k) rfl rfl rfl rfl (by rw [hz2]; omega) (by unfold maxLen; omega) (Nat.le_refl _) ?_; intro w4 hown4 hg4)
        rw [made_ints] at hown4
        have how : Ow .u8 5 w3.heap.size w4 (some ⟨w3.heap.size, 0, none⟩) (400 + k) (400 + k) (List.replicate (400 + k) 0) := by simpa [Ow] using hown4
        have hcv := conv_str (P := Try.prog) how 49 9 5 Try.underlying49 Try.underlying5 Try.underlying9
        have hbw4 : Below w3.heap.size w3 w4 := (Below.refl _ _).grown hg4 (Nat.le_refl _) (by simp)
        clear hown4 hg4
        rw [hcv]
        go_wp2_with fail
        go_ret
        exact ⟨_, rfl, by rw [strOfNums_size, List.length_replicate]; omega, src_keep hS3 hbw4, keeps_trans hK3 (keeps_below hbw4)⟩
      · by_cases hq1 : r = 1
        · subst hq1
          clear hr0 hr1 hq
          have h7 : (⟨#[55]⟩ : ByteArray).size = 1 := rfl
          go_wp2_with fail
          go_loopw [3] (fun o wr => ∃ s : ByteArray, o = .string s ∧ s.size ≤ 260 ∧ w2 = wr) (fun o _ => 260 - (strOf o).size)
          case atStart => exact ⟨_, rfl, Nat.zero_le _, rfl⟩
          case round =>
            obtain ⟨t, rfl, ht, rfl⟩ := hrel
            by_cases hlt : t.size < 260
            · have hd : decide ((t.size : Int) < 260) = true := by rw [decide_eq_true_eq]; omega
              have hb : ¬ 9223372036854775807 < t.size + 1 := by omega
              go_wp2_with fail
              go_roundw
              case rel => exact ⟨_, rfl, by rw [ByteArray.size_append, h7]; omega, by first | trivial | rfl⟩
              case measure => (show 260 - (t ++ ⟨#[55]⟩ : ByteArray).size < 260 - t.size); rw [ByteArray.size_append, h7]; omega
            · have hd : decide ((t.size : Int) < 260) = false := by rw [decide_eq_false_iff_not]; omega
              go_wp2_with fail
              go_ret
              exact ⟨_, rfl, by omega, hS2, hK2⟩
        · have h0 : (r == 0) = false := by rw [beq_eq_false_iff_ne]; exact hq
          have h1 : (r == 1) = false := by rw [beq_eq_false_iff_ne]; exact hq1
          go_wp2_with fail
          go_ret
          exact ⟨_, rfl, by omega, hS2, hK2⟩
    · have e1 : IntKind.i64.wrap (((m + 1 : Nat) : Int) - 1) = (m : Int) := (IntWalk.i64_in _ (by omega)).trans (by omega)
      have e2 : decide ((0 : Int) < ((m + 1 : Nat) : Int)) = true := by simp
      go_wp2_with fail
      refine (l01Next_any _ S 4 _ hS (by decide)).mono ?_
      rintro e w2 ⟨r, rfl, hr0, hr1, hS2, hg2⟩
      have hK2 := keeps_trans hK hg2
      have hr3 : r ≤ 3 := by omega
      clear hg2 hS hK hr1
      have e3 : IntKind.i64.wrap (1 + r) = 1 + r := IntWalk.i64_in _ (by omega)
      go_wp2_with fail
      refine (l09DrawText_any _ S 10 (1 + r) _ hS2 (by omega) (by omega)).mono ?_
      rintro e w3 ⟨t, rfl, ht, hS3, hg3⟩
      have hK3 := keeps_trans hK2 hg3
      have hb : ¬ 9223372036854775807 < s.size + t.size := by omega
      clear hg3 hS2 hK2
      go_wp2_with fail
      go_roundw
      case rel => exact ⟨s ++ t, m, by omega, by go_num, rfl, by simp; omega, hS3, hK3⟩
      case measure => simp [intOf]
end Go.Proofs.Ytnajjofaijpciaa
/-
  Contracts: what the reference draws for fields.
  Conditions: codes of at most 4096 bytes.
-/
set_option linter.unusedVariables false
namespace Go.Proofs.Ytnajjofaijpciaa
open Go.RowKit Go.G8
end Go.Proofs.Ytnajjofaijpciaa
/-
  Plain facts on the field of a size: it is valid, has this size, and no smaller polynomial or generator serves.
  Conditions: none.
-/
set_option linter.unusedVariables false
namespace Go.Proofs.Ytnajjofaijpciaa
open Go.RowKit Go.G8
theorem firstFrom_spec {f : Nat → Bool} : ∀ {n k g : Nat}, firstFrom f n k = some g → f g = true ∧ k ≤ g ∧ g < k + n ∧ ∀ j, k ≤ j → j < g → f j = false := by
  intro n
  induction n with
  | zero => intro k g h; cases h
  | succ n ih =>
    intro k g h
    cases hk : f k with
    | true =>
      rw [firstFrom_yes hk] at h
      injection h with h
      subst h
      exact ⟨hk, Nat.le_refl _, by omega, fun j h1 h2 => by omega⟩
    | false =>
      rw [firstFrom_no hk] at h
      obtain ⟨h1, h2, h3, h4⟩ := ih h
      refine ⟨h1, by omega, by omega, fun j h5 h6 => ?_⟩
      rcases Nat.lt_or_ge k j with hlt | hge
      · exact h4 j hlt h6
      · obtain rfl : j = k := by omega
        exact hk
theorem noRun_all {p : Int} {g : Nat} (h : ∀ j, 2 ≤ j → j < g → runP p j = false) : noRun p g = true := by
  refine List.all_eq_true.2 (fun j hj => ?_)
  have hj2 : j < g := by simpa using hj
  by_cases h2 : j < 2
  · simp [h2]
  · rw [h j (by omega) hj2]; simp
theorem found_prime {p : Int} {g : Nat} (h : 3 ≤ p ∧ p ≤ 1021) (hp : primeB p = true) (hg : genOf p = some g) : fieldB p 1 g = true ∧ fieldB p 1 ((g : Int) - 1) = false ∧ 2 ≤ g ∧ (g : Int) < p := by
  obtain ⟨h1, h2, h3, h4⟩ := firstFrom_spec hg
  have hgp : (g : Int) < p := by omega
  refine ⟨?_, ?_, h2, hgp⟩
  · rw [fieldB_prime h hp]
    unfold leastB
    rw [decide_eq_true (show 2 ≤ (g : Int) ∧ (g : Int) < p by omega), Int.toNat_natCast, noRun_all h4, h1]
    rfl
  · rw [fieldB_prime h hp]
    unfold leastB
    by_cases h5 : g = 2
    · subst h5; rw [decide_eq_false (by omega)]; rfl
    · have h6 := h4 (g - 1) (by omega) (by omega)
      have e : ((g - 1 : Nat) : Int) = (g : Int) - 1 := by omega
      simp only [e] at h6
      rw [h6]
      simp
theorem found_bin {P y : Nat} (hP : 3 ≤ P ∧ P ≤ 8) (hy : polyOf P = some y) : fieldB 2 P y = true ∧ fieldB 2 P ((y : Int) - 1) = false ∧ 2 ^ P ≤ y ∧ y < 2 * 2 ^ P := by
  obtain ⟨h1, h2, h3, h4⟩ := firstFrom_spec hy
  refine ⟨h1, ?_, h2, by omega⟩
  by_cases h5 : y = 2 ^ P
  · rw [fieldB_two hP]
    refine binB_out ?_
    have e : ((2 ^ P : Nat) : Int) = (2 : Int) ^ P := Int.natCast_pow 2 P
    omega
  · have h6 := h4 (y - 1) (by omega) (by omega)
    have e : ((y - 1 : Nat) : Int) = (y : Int) - 1 := by have := Nat.pow_pos (n := P) (show 0 < 2 by decide); omega
    simp only [e] at h6
    exact h6
theorem loopB_res (size : Int) : ∀ (n P : Nat), 3 ≤ P → P + n = 9 → loopB size n P = ((0, 0, 0), 4) ∨ ∃ Q y : Nat, (3 ≤ Q ∧ Q ≤ 8) ∧ size = 2 ^ Q ∧ polyOf Q = some y ∧ loopB size n P = ((2, (Q : Int), (y : Int)), 0) := by
  intro n
  induction n with
  | zero => intro P _ _; exact .inl rfl
  | succ n ih =>
    intro P h3 h9
    by_cases hs : size = 2 ^ P
    · cases hy : polyOf P with
      | none => rw [loopB_none hs hy]; exact ih (P + 1) (by omega) (by omega)
      | some y => exact .inr ⟨P, y, by omega, hs, hy, loopB_some hs hy⟩
    · rw [loopB_skip hs]; exact ih (P + 1) (by omega) (by omega)
/-- What the field of a size is. -/
structure Found (size p q y : Int) : Prop where
  ok : fieldB p q y = true
  less : fieldB p q (y - 1) = false
  size : fsize p q = size
  bd : (2 ≤ p ∧ p ≤ 1021) ∧ (1 ≤ q ∧ q ≤ 8) ∧ (2 ≤ y ∧ y ≤ 1021)
theorem fieldOf_res (size : Int) : rFieldOf size = ((0, 0, 0), 4) ∨ ∃ p q y, rFieldOf size = ((p, q, y), 0) ∧ Found size p q y := by
  have hloop : loopB size 6 3 = ((0, 0, 0), 4) ∨ ∃ p q y, loopB size 6 3 = ((p, q, y), 0) ∧ Found size p q y := by
    rcases loopB_res size 6 3 (by omega) (by omega) with h | ⟨Q, y, hQ, hs, hy, h⟩
    · exact .inl h
    · obtain ⟨f1, f2, f3, f4⟩ := found_bin hQ hy
      refine .inr ⟨_, _, _, h, ⟨f1, f2, ?_, ?_⟩⟩
      · unfold fsize; rw [if_neg (by omega), Int.toNat_natCast, hs]
      · have h8 : 2 ^ Q ≤ 2 ^ 8 := Nat.pow_le_pow_right (by decide) hQ.2
        have h3 : 2 ^ 3 ≤ 2 ^ Q := Nat.pow_le_pow_right (by decide) hQ.1
        omega
  by_cases h : 3 ≤ size ∧ size ≤ 1021
  · cases hp : primeB size with
    | false => rw [rFieldOf_nop hp]; exact hloop
    | true =>
      cases hg : genOf size with
      | none => rw [rFieldOf_none hg]; exact hloop
      | some g =>
        obtain ⟨f1, f2, f3, f4⟩ := found_prime h hp hg
        exact .inr ⟨_, _, _, rFieldOf_some h hp hg, ⟨f1, f2, rfl, by omega⟩⟩
  · rw [rFieldOf_range h]; exact hloop
end Go.Proofs.Ytnajjofaijpciaa
