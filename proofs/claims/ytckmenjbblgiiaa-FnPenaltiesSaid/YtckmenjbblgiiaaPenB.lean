/-
  Contracts: the penalty of the runs in a line of cells that a closure reads, by the program.
  Conditions: cells that read.
-/
import Derived.Test.YtckmenjbblgiiaaPenA
import Derived.Laws.EntriesVeiled
set_option linter.unusedVariables false
namespace Go.Proofs.Ytckmenjbblgiiaa
open Go.RowKit Go.G8
/-- The grid lies in slot G, a number in slot V. -/
def GV (G V : Nat) (r c : Int) (s : Value) (v : Int) (w : World) : Prop :=
  G < w.heap.size ∧ V < w.heap.size ∧ w.cell? ⟨G, 0, none⟩ = some (.int .i64 r) ∧ w.cell? ⟨G, 1, none⟩ = some (.int .i64 c) ∧ w.cell? ⟨G, 2, none⟩ = some s ∧ w.cell? ⟨V, 0, none⟩ = some (.int .i64 v)
theorem GV.to {G V : Nat} {r c v : Int} {s : Value} {w w' : World} (h : GV G V r c s v w) (hb : Below w.heap.size w w') : GV G V r c s v w' := by
  obtain ⟨h1, h2, h3, h4, h5, h6⟩ := h
  have hs := hb.size
  exact ⟨by omega, by omega, ((bcell hb).1 G 0 h1).trans h3, ((bcell hb).1 G 1 h1).trans h4, ((bcell hb).1 G 2 h1).trans h5, ((bcell hb).1 V 0 h2).trans h6⟩
set_option maxHeartbeats 1000000 in
theorem pen1_any (G V : Nat) (r c v i x : Int) (b o n k I : Nat) (w : World) (h : GV G V r c (.slice (some ⟨b, o, none⟩) n k) v w) (e1 : IntKind.i64.wrap (v * c) = v * c) (e2 : IntKind.i64.wrap (v * c + i) = (I : Int)) (hI : I < n) (hbl : b < w.heap.size) (hcell : w.cell? ⟨b, o + I, none⟩ = some (.int .i64 x)) :
    Calls Try.prog 96 #[.int .i64 i, .pointer (some ⟨G, 0, none⟩), .pointer (some ⟨V, 0, none⟩)] w (Ret (.int .i64 x) w) := by
  obtain ⟨h1, h2, h3, h4, h5, h6⟩ := h
  have HA := Lib.hid (fun W hbl hc => at_any r c b o n k I v i x W e1 e2 hI hbl hc)
  go_enter Try.func96, Try.ntmps96
  go_wp2_with fail
  refine (HA.out _ hbl hcell).mono ?_
  rintro e w1 ⟨rfl, hb1⟩
  go_wp2_with fail
  go_ret
  exact ⟨rfl, hb1⟩
set_option maxHeartbeats 1000000 in
theorem pen2_any (G V : Nat) (r c v i x : Int) (b o n k I : Nat) (w : World) (h : GV G V r c (.slice (some ⟨b, o, none⟩) n k) v w) (e1 : IntKind.i64.wrap (i * c) = i * c) (e2 : IntKind.i64.wrap (i * c + v) = (I : Int)) (hI : I < n) (hbl : b < w.heap.size) (hcell : w.cell? ⟨b, o + I, none⟩ = some (.int .i64 x)) :
    Calls Try.prog 98 #[.int .i64 i, .pointer (some ⟨G, 0, none⟩), .pointer (some ⟨V, 0, none⟩)] w (Ret (.int .i64 x) w) := by
  obtain ⟨h1, h2, h3, h4, h5, h6⟩ := h
  have HA := Lib.hid (fun W hbl hc => at_any r c b o n k I i v x W e1 e2 hI hbl hc)
  go_enter Try.func98, Try.ntmps98
  go_wp2_with fail
  refine (HA.out _ hbl hcell).mono ?_
  rintro e w1 ⟨rfl, hb1⟩
  go_wp2_with fail
  go_ret
  exact ⟨rfl, hb1⟩
theorem runI_cut {g : Nat → Int} {n k : Nat} (h : k + 1 = n ∨ g k ≠ g (k + 1)) : runI g n (k + 1) = ((runI g n k).1 + pen ((runI g n k).2 + 1), 0) := if_pos h
theorem runI_on {g : Nat → Int} {n k : Nat} (h : ¬ k + 1 = n) (h2 : g k = g (k + 1)) : runI g n (k + 1) = ((runI g n k).1, (runI g n k).2 + 1) := if_neg (by rintro (x | x); exact h x; exact x h2)
set_option maxHeartbeats 1000000 in
theorem runPenalty1_any (g : Nat → Int) (p q : Value) (n : Nat) (w : World) (hn : n ≤ 1000000)
    (HC : ∀ (i : Nat) (W : World), i < n → Below w.heap.size w W → Calls Try.prog 96 #[.int .i64 (i : Int), p, q] W (Ret (.int .i64 (g i)) W)) :
    Calls Try.prog 95 #[.int .i64 n, .func (.func 96) #[] #[p, q]] w (Ret (.int .i64 ((runS g n).1 : Nat)) w) := by
  go_enter Try.func95, Try.ntmps95
  go_wp2
  go_loopw [5, 6, 7] (fun s l i wr => ∃ k : Nat, k ≤ n ∧ i = .int .i64 (k : Int) ∧ s = .int .i64 ((runI g n k).1 : Nat) ∧ l = .int .i64 ((runI g n k).2 : Nat) ∧ Below w.heap.size w wr) (fun _ _ i _ => n - (intOf i).toNat)
  case atStart => exact ⟨0, Nat.zero_le _, rfl, rfl, rfl, Below.refl _ _⟩
  case round =>
    obtain ⟨k, hk, rfl, rfl, rfl, hB⟩ := hrel
    obtain ⟨hbd1, hbd2⟩ := runI_bd g n k hk
    have hE := runI_end g n
    obtain ⟨S, hS⟩ : ∃ S, (runI g n k).1 = S := ⟨_, rfl⟩
    obtain ⟨L, hL⟩ : ∃ L, (runI g n k).2 = L := ⟨_, rfl⟩
    rw [hS] at hbd1 ⊢
    rw [hL] at hbd2 ⊢
    have HS := Lib.hid hS
    have HLn := Lib.hid hL
    clear hS hL
    by_cases hlt : k < n
    · clear hE
      by_cases hl : k + 1 = n
      have E2 := Lib.hid (show (((runI g n (k + 1)).2 : Nat) : Int) = 0 by rw [runI_cut (.inl hl)]; rfl)
      by_cases h5 : 5 ≤ L + 1
      · have E1 := Lib.hid (show (((runI g n (k + 1)).1 : Nat) : Int) = S + ((L : Int) + 1 - 2) by rw [runI_cut (.inl hl), HS.out, HLn.out]; unfold pen; rw [if_pos h5]; show ((S + (L + 1 - 2) : Nat) : Int) = _; omega)
        go_wp2_with fail
        go_roundw
        case rel => exact ⟨k + 1, by omega, by go_num, by rw [E1.out], by rw [E2.out], hB⟩
        case measure => simp [intOf]; omega
      · have E1 := Lib.hid (show (((runI g n (k + 1)).1 : Nat) : Int) = S by rw [runI_cut (.inl hl), HS.out, HLn.out]; unfold pen; rw [if_neg h5]; rfl)
        go_wp2_with fail
        go_roundw
        case rel => exact ⟨k + 1, by omega, by go_num, by rw [E1.out], by rw [E2.out], hB⟩
        case measure => simp [intOf]; omega
      · by_cases hg : g k = g (k + 1)
        · have hgg : (g k != g (k + 1)) = false := by simp [hg]
          have E2 := Lib.hid (show (((runI g n (k + 1)).2 : Nat) : Int) = (L : Int) + 1 by rw [runI_on hl hg, HLn.out]; rfl)
          have E1 := Lib.hid (show (((runI g n (k + 1)).1 : Nat) : Int) = S by rw [runI_on hl hg, HS.out])
          clear hg
          go_wp2_with fail
          refine (HC k _ hlt hB).mono ?_
          rintro e w1 ⟨rfl, hb1⟩
          have hB1 := bt hB hb1
          clear hb1
          go_wp2_with fail
          refine (HC (k + 1) _ (by omega) hB1).mono ?_
          rintro e w2 ⟨rfl, hb2⟩
          have hB2 := bt hB1 hb2
          clear hb2
          go_wp2_with fail
          go_roundw
          case rel => exact ⟨k + 1, by omega, by go_num, by rw [E1.out], by rw [E2.out], hB2⟩
          case measure => simp [intOf]; omega
        · have hgg : (g k != g (k + 1)) = true := by rw [bne_iff_ne]; exact hg
          have E2 := Lib.hid (show (((runI g n (k + 1)).2 : Nat) : Int) = 0 by rw [runI_cut (.inr hg)]; rfl)
          by_cases h5 : 5 ≤ L + 1
          · have E1 := Lib.hid (show (((runI g n (k + 1)).1 : Nat) : Int) = S + ((L : Int) + 1 - 2) by rw [runI_cut (.inr hg), HS.out, HLn.out]; unfold pen; rw [if_pos h5]; show ((S + (L + 1 - 2) : Nat) : Int) = _; omega)
            go_wp2_with fail
            refine (HC k _ hlt hB).mono ?_
            rintro e w1 ⟨rfl, hb1⟩
            have hB1 := bt hB hb1
            clear hb1
            go_wp2_with fail
            refine (HC (k + 1) _ (by omega) hB1).mono ?_
            rintro e w2 ⟨rfl, hb2⟩
            have hB2 := bt hB1 hb2
            clear hb2
            go_wp2_with fail
            go_roundw
            case rel => exact ⟨k + 1, by omega, by go_num, by rw [E1.out], by rw [E2.out], hB2⟩
            case measure => simp [intOf]; omega
          · have E1 := Lib.hid (show (((runI g n (k + 1)).1 : Nat) : Int) = S by rw [runI_cut (.inr hg), HS.out, HLn.out]; unfold pen; rw [if_neg h5]; rfl)
            go_wp2_with fail
            refine (HC k _ hlt hB).mono ?_
            rintro e w1 ⟨rfl, hb1⟩
            have hB1 := bt hB hb1
            clear hb1
            go_wp2_with fail
            refine (HC (k + 1) _ (by omega) hB1).mono ?_
            rintro e w2 ⟨rfl, hb2⟩
            have hB2 := bt hB1 hb2
            clear hb2
            go_wp2_with fail
            go_roundw
            case rel => exact ⟨k + 1, by omega, by go_num, by rw [E1.out], by rw [E2.out], hB2⟩
            case measure => simp [intOf]; omega
    · obtain rfl : k = n := by omega
      have e : S = (runS g k).1 := by rw [← HS.out]; exact hE
      subst e
      go_wp2
      go_ret
      exact ⟨rfl, hB⟩
set_option maxHeartbeats 1000000 in
theorem runPenalty2_any (g : Nat → Int) (p q : Value) (n : Nat) (w : World) (hn : n ≤ 1000000)
    (HC : ∀ (i : Nat) (W : World), i < n → Below w.heap.size w W → Calls Try.prog 98 #[.int .i64 (i : Int), p, q] W (Ret (.int .i64 (g i)) W)) :
    Calls Try.prog 95 #[.int .i64 n, .func (.func 98) #[] #[p, q]] w (Ret (.int .i64 ((runS g n).1 : Nat)) w) := by
  go_enter Try.func95, Try.ntmps95
  go_wp2
  go_loopw [5, 6, 7] (fun s l i wr => ∃ k : Nat, k ≤ n ∧ i = .int .i64 (k : Int) ∧ s = .int .i64 ((runI g n k).1 : Nat) ∧ l = .int .i64 ((runI g n k).2 : Nat) ∧ Below w.heap.size w wr) (fun _ _ i _ => n - (intOf i).toNat)
  case atStart => exact ⟨0, Nat.zero_le _, rfl, rfl, rfl, Below.refl _ _⟩
  case round =>
    obtain ⟨k, hk, rfl, rfl, rfl, hB⟩ := hrel
    obtain ⟨hbd1, hbd2⟩ := runI_bd g n k hk
    have hE := runI_end g n
    obtain ⟨S, hS⟩ : ∃ S, (runI g n k).1 = S := ⟨_, rfl⟩
    obtain ⟨L, hL⟩ : ∃ L, (runI g n k).2 = L := ⟨_, rfl⟩
    rw [hS] at hbd1 ⊢
    rw [hL] at hbd2 ⊢
    have HS := Lib.hid hS
    have HLn := Lib.hid hL
    clear hS hL
    by_cases hlt : k < n
    · clear hE
      by_cases hl : k + 1 = n
      have E2 := Lib.hid (show (((runI g n (k + 1)).2 : Nat) : Int) = 0 by rw [runI_cut (.inl hl)]; rfl)
      by_cases h5 : 5 ≤ L + 1
      · have E1 := Lib.hid (show (((runI g n (k + 1)).1 : Nat) : Int) = S + ((L : Int) + 1 - 2) by rw [runI_cut (.inl hl), HS.out, HLn.out]; unfold pen; rw [if_pos h5]; show ((S + (L + 1 - 2) : Nat) : Int) = _; omega)
        go_wp2_with fail
        go_roundw
        case rel => exact ⟨k + 1, by omega, by go_num, by rw [E1.out], by rw [E2.out], hB⟩
        case measure => simp [intOf]; omega
      · have E1 := Lib.hid (show (((runI g n (k + 1)).1 : Nat) : Int) = S by rw [runI_cut (.inl hl), HS.out, HLn.out]; unfold pen; rw [if_neg h5]; rfl)
        go_wp2_with fail
        go_roundw
        case rel => exact ⟨k + 1, by omega, by go_num, by rw [E1.out], by rw [E2.out], hB⟩
        case measure => simp [intOf]; omega
      · by_cases hg : g k = g (k + 1)
        · have hgg : (g k != g (k + 1)) = false := by simp [hg]
          have E2 := Lib.hid (show (((runI g n (k + 1)).2 : Nat) : Int) = (L : Int) + 1 by rw [runI_on hl hg, HLn.out]; rfl)
          have E1 := Lib.hid (show (((runI g n (k + 1)).1 : Nat) : Int) = S by rw [runI_on hl hg, HS.out])
          clear hg
          go_wp2_with fail
          refine (HC k _ hlt hB).mono ?_
          rintro e w1 ⟨rfl, hb1⟩
          have hB1 := bt hB hb1
          clear hb1
          go_wp2_with fail
          refine (HC (k + 1) _ (by omega) hB1).mono ?_
          rintro e w2 ⟨rfl, hb2⟩
          have hB2 := bt hB1 hb2
          clear hb2
          go_wp2_with fail
          go_roundw
          case rel => exact ⟨k + 1, by omega, by go_num, by rw [E1.out], by rw [E2.out], hB2⟩
          case measure => simp [intOf]; omega
        · have hgg : (g k != g (k + 1)) = true := by rw [bne_iff_ne]; exact hg
          have E2 := Lib.hid (show (((runI g n (k + 1)).2 : Nat) : Int) = 0 by rw [runI_cut (.inr hg)]; rfl)
          by_cases h5 : 5 ≤ L + 1
          · have E1 := Lib.hid (show (((runI g n (k + 1)).1 : Nat) : Int) = S + ((L : Int) + 1 - 2) by rw [runI_cut (.inr hg), HS.out, HLn.out]; unfold pen; rw [if_pos h5]; show ((S + (L + 1 - 2) : Nat) : Int) = _; omega)
            go_wp2_with fail
            refine (HC k _ hlt hB).mono ?_
            rintro e w1 ⟨rfl, hb1⟩
            have hB1 := bt hB hb1
            clear hb1
            go_wp2_with fail
            refine (HC (k + 1) _ (by omega) hB1).mono ?_
            rintro e w2 ⟨rfl, hb2⟩
            have hB2 := bt hB1 hb2
            clear hb2
            go_wp2_with fail
            go_roundw
            case rel => exact ⟨k + 1, by omega, by go_num, by rw [E1.out], by rw [E2.out], hB2⟩
            case measure => simp [intOf]; omega
          · have E1 := Lib.hid (show (((runI g n (k + 1)).1 : Nat) : Int) = S by rw [runI_cut (.inr hg), HS.out, HLn.out]; unfold pen; rw [if_neg h5]; rfl)
            go_wp2_with fail
            refine (HC k _ hlt hB).mono ?_
            rintro e w1 ⟨rfl, hb1⟩
            have hB1 := bt hB hb1
            clear hb1
            go_wp2_with fail
            refine (HC (k + 1) _ (by omega) hB1).mono ?_
            rintro e w2 ⟨rfl, hb2⟩
            have hB2 := bt hB1 hb2
            clear hb2
            go_wp2_with fail
            go_roundw
            case rel => exact ⟨k + 1, by omega, by go_num, by rw [E1.out], by rw [E2.out], hB2⟩
            case measure => simp [intOf]; omega
    · obtain rfl : k = n := by omega
      have e : S = (runS g k).1 := by rw [← HS.out]; exact hE
      subst e
      go_wp2
      go_ret
      exact ⟨rfl, hB⟩
end Go.Proofs.Ytckmenjbblgiiaa
