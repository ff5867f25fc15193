/-
  Contracts: the elements with bits, by the reference and by the program.
  Conditions: none.
-/
import Derived.Test.YtnajjofaijpciaaFieldW
import Derived.Test.YtnajjofaijpciaaL01b
import Derived.Test.YtnajjofaijpciaaL01d
import Derived.Test.YtnajjofaijpciaaPolyIs
set_option linter.unusedVariables false
namespace Go.Proofs.Ytnajjofaijpciaa
open Go.RowKit Go.G8
theorem wF_bd {s : Int} (hs : s ≤ 1021) : ∀ (n k : Nat), (2 : Int) ^ k ≤ s → k ≤ wF s n k ∧ (2 : Int) ^ (wF s n k) ≤ s := by
  intro n
  induction n with
  | zero => intro k hk; exact ⟨Nat.le_refl _, hk⟩
  | succ n ih =>
    intro k hk
    by_cases h : (2 : Int) * 2 ^ k ≤ s
    · rw [wF_yes h]
      have := ih (k + 1) (by rw [Int.pow_succ]; omega)
      omega
    · rw [wF_no h]; exact ⟨Nat.le_refl _, hk⟩
theorem wOf_bd {s : Int} (h3 : 3 ≤ s) (hs : s ≤ 1021) : 1 ≤ wOf s ∧ wOf s ≤ 9 ∧ (2 : Int) ^ (wOf s) ≤ s := by
  have h1 : wOf s = wF s 9 1 := by unfold wOf; rw [wF_yes (by simp; omega)]
  have h := wF_bd hs 9 1 (by simp; omega)
  rw [← h1] at h
  refine ⟨h.1, ?_, h.2⟩
  rcases Nat.lt_or_ge (wOf s) 10 with hl | hg
  · omega
  · exfalso
    have : (2 : Nat) ^ 10 ≤ 2 ^ (wOf s) := Nat.pow_le_pow_right (by decide) hg
    have e : ((2 ^ (wOf s) : Nat) : Int) = (2 : Int) ^ (wOf s) := Int.natCast_pow 2 _
    omega
def elemsL (xs : List Int) (w m : Nat) : List Int := (List.range m).map (fun j => num (bpart xs (w * j) w))
theorem elemsL_succ (xs : List Int) (w m : Nat) : elemsL xs w (m + 1) = elemsL xs w m ++ [num (bpart xs (w * m) w)] := by simp [elemsL, List.range_succ]
theorem elemsL_length (xs : List Int) (w m : Nat) : (elemsL xs w m).length = m := by simp [elemsL]
theorem elemsL_fits {xs : List Int} (h : ∀ x ∈ xs, x = 0 ∨ x = 1) (w m : Nat) (hw : w ≤ 32) : ∀ x ∈ elemsL xs w m, fits .i64 x := by
  intro x hx
  simp only [elemsL, List.mem_map] at hx
  obtain ⟨j, _, rfl⟩ := hx
  have := part_num h (w * j) w hw
  show -9223372036854775808 ≤ _ ∧ _ ≤ 9223372036854775807
  omega
set_option maxHeartbeats 1000000 in
set_option maxRecDepth 20000 in
theorem l11Elements_any (a : Option Addr) (n c : Nat) (xs : List Int) (wd m : Nat) (w : World) (h : Rd .i64 w a n xs) (hb : Hid (∀ x ∈ xs, x = 0 ∨ x = 1)) (hw : 1 ≤ wd ∧ wd ≤ 9) (hn : n ≤ 8192) (hm : n = wd * m) :
    Calls Try.prog 75 #[.int .i64 wd, .slice a n c] w (RetRow .i64 2 (elemsL xs wd m) w) := by
  obtain ⟨i0, hi, hz0, hz1, hz2⟩ := info_parts info_int64
  obtain ⟨hw1, hw2⟩ := hw
  have HM := Lib.hid hm
  clear hm
  go_enter Try.func75, Try.ntmps75
  go_wp2
  go_loopw [5, 6] (fun o i wr => ∃ (a' : Option Addr) (c' k j : Nat), k ≤ m ∧ Hid (j = wd * k) ∧ i = .int .i64 (j : Int) ∧ o = .slice a' k c' ∧ Ow .i64 2 w.heap.size wr a' k c' (elemsL xs wd k) ∧ Below w.heap.size w wr) (fun _ i _ => n + 1 - (intOf i).toNat)
  case atStart => exact ⟨_, _, 0, 0, Nat.zero_le _, rfl, rfl, rfl, Ow.empty _ _ _ w (Nat.le_refl _), (Below.refl _ _).alloc (Nat.le_refl _) _⟩
  case round =>
    obtain ⟨a', c', k, j, hk, hj, rfl, rfl, hown, hbel⟩ := hrel
    have hBr := hbel.size
    have hR := h.to hbel
    by_cases hlt : k < m
    · have hj1 : j + wd ≤ n := by
        have h1 : wd * (k + 1) ≤ wd * m := Nat.mul_le_mul_left _ hlt
        rw [Nat.mul_succ] at h1
        have h2 := hj.out
        have h3 := HM.out
        omega
      have hkn : k ≤ n := by
        have h1 : 1 * k ≤ wd * k := Nat.mul_le_mul_right _ hw1
        have h2 := hj.out
        omega
      have hnum := part_num hb.out j wd (by omega)
      have hjs := Lib.hid (show j + wd = wd * (k + 1) by rw [Nat.mul_succ, ← hj.out])
      have hS := Lib.hid (show elemsL xs wd (k + 1) = elemsL xs wd k ++ [num (bpart xs j wd)] by rw [elemsL_succ, ← hj.out])
      go_wp2_with (first | (go_at_call 42; refine (l01Number_any a n c xs j wd _ hR hb (by omega) (by omega) (by omega) (by omega) (by omega)).mono ?_; rintro e w' ⟨rfl, rfl⟩) | (at_builtin; refine wpList_push .i64 _ rfl _ _ 22 rfl w.heap.size 2 _ i0 8 Try.underlying22 hi hz0 hz1 hz2 (by omega) a' k c' _ _ rfl hown rfl (by omega) (by omega) ?_; intro a2 n2 c2 w2 hown2 hbel2))
      have hn2 : n2 = k + 1 := by have e1 := hown2.len; simp [elemsL_length] at e1; omega
      subst hn2
      rw [← hS.out] at hown2
      go_roundw
      case rel => exact ⟨a2, c2, k + 1, j + wd, by omega, hjs, by go_num, rfl, hown2, hbel.trans hbel2⟩
      case measure => simp [intOf]; omega
    · obtain rfl : k = m := by omega
      have hj2 : j = n := by have h2 := hj.out; have h3 := HM.out; omega
      have hj3 : (n : Int) < (j : Int) + (wd : Int) := by omega
      have hj4 : j ≤ 8192 := by omega
      clear hlt hj2
      go_wp2
      go_ret
      exact ⟨_, _, _, rfl, hown, hbel⟩
def rBitElements (p q y : Int) (xs : List Int) : List Int × Int :=
  if fieldB p q y = true ∧ isBits xs = true then (if xs.length % wOf (fsize p q) = 0 then (elemsL xs (wOf (fsize p q)) (xs.length / wOf (fsize p q)), 0) else ([], 5)) else ([], 1)
theorem rBitElements_f {p q y : Int} {xs : List Int} (h : fieldB p q y = false) : rBitElements p q y xs = ([], 1) := by unfold rBitElements; rw [if_neg (by rw [h]; simp)]
theorem rBitElements_b {p q y : Int} {xs : List Int} (h : isBits xs = false) : rBitElements p q y xs = ([], 1) := by unfold rBitElements; rw [if_neg (by rw [h]; simp)]
theorem rBitElements_s {p q y : Int} {xs : List Int} {wd : Nat} (h : fieldB p q y = true) (hb : isBits xs = true) (hw : wOf (fsize p q) = wd) (hm : ¬ xs.length % wd = 0) : rBitElements p q y xs = ([], 5) := by unfold rBitElements; rw [if_pos ⟨h, hb⟩, hw, if_neg hm]
theorem rBitElements_ok1 {p q y : Int} {xs : List Int} {wd : Nat} (h : fieldB p q y = true) (hb : isBits xs = true) (hw : wOf (fsize p q) = wd) (hm : xs.length % wd = 0) : rBitElements p q y xs = (elemsL xs wd (xs.length / wd), 0) := by unfold rBitElements; rw [if_pos ⟨h, hb⟩, hw, if_pos hm]
theorem rBitElements_ok (p q y : Int) (xs : List Int) : (rBitElements p q y xs).1.length ≤ 1000000 ∧ ∀ x ∈ (rBitElements p q y xs).1, fits .i64 x := by
  unfold rBitElements
  split
  · rename_i h
    split
    · have hb := (isBits_iff xs).1 h.2
      have hbd := fsize_bd h.1
      have hw := wOf_bd hbd.1 hbd.2
      refine ⟨?_, elemsL_fits hb.2 _ _ (by omega)⟩
      rw [elemsL_length]
      have := Nat.div_le_self xs.length (wOf (fsize p q))
      omega
    · simp
  · simp
end Go.Proofs.Ytnajjofaijpciaa
