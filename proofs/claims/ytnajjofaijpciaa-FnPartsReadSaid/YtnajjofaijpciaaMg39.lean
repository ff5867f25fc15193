/-
  Texts of the proof, one behind the other: each bears its own heading.
  Conditions: as the headings say.
-/
import Derived.Test.YtnajjofaijpciaaPrF
import Derived.Test.YtnajjofaijpciaaMg24
/-
  Contract: a message written (some bits).
  Conditions: messages of at most 1000 bytes.
-/
set_option linter.unusedVariables false
namespace Go.Proofs.Ytnajjofaijpciaa
open Go.RowKit Go.G8
set_option maxHeartbeats 4000000 in
set_option maxRecDepth 20000 in
theorem writeMessage_any (s : ByteArray) (n : Nat) (w : World) (hs : s.size = n) (hn : n ≤ 1000) :
    Calls Try.prog 85 #[.slice none 0 0, .string s] w (fun e w' => ∃ (a : Option Addr) (k c : Nat) (zs : List Int) (code : Int), e = .returned (.tuple #[.slice a k c, .int .i64 code]) ∧ Ow .i64 2 w.heap.size w' a k c zs ∧ k ≤ 4000000 ∧ (∀ z ∈ zs, z = 0 ∨ z = 1) ∧ Below w.heap.size w w') := by
  have hR0 : Rd .i64 w none 0 [] := (Ow.nil w 2 w.heap.size (K := .i64)).rd (fun x hx => by cases hx)
  have HIs := Lib.hid (fun W (hR : Rd .i64 W none 0 []) => specIsBits_any none 0 0 [] W hR (by omega))
  rw [show isBits [] = true from rfl] at HIs
  have HBL := Lib.hid (fun W => bestLength_any s n W hs hn)
  have HBe := Lib.hid (fun W => l10Best_any s n W hs hn)
  clear hs
  go_enter Try.func85, Try.ntmps85
  go_wp2_with fail
  refine (HIs.out _ hR0).mono ?_
  rintro e w1 ⟨rfl, rfl⟩
  go_wp2_with fail
  refine (HBL.out _).mono ?_
  rintro e w1 ⟨r, code, rfl, hr, hcd, hb1⟩
  have hR1 := hR0.to hb1
  by_cases hc : code = 0
  · subst hc
    have h0 : ((0 : Int) != 0) = false := by simp
    have ew : IntKind.i64.wrap (0 + r) = r := (IntWalk.i64_in _ (by omega)).trans (by omega)
    have ew2 : IntKind.i64.wrap r = r := IntWalk.i64_in _ (by omega)
    by_cases hbig : 8192 < r
    · have hd : decide (8192 < r) = true := by rw [decide_eq_true_eq]; exact hbig
      go_wp2_with fail
      go_ret2
      exact ⟨_, _, _, [], _, rfl, Ow.nil _ _ _, by omega, (fun z hz => by cases hz), hb1⟩
    · have hd : decide (8192 < r) = false := by rw [decide_eq_false_iff_not]; exact hbig
      go_wp2_with fail
      refine (l01Own_any none 0 0 [] _ hR1 (by omega)).mono ?_
      rintro e w2 ⟨a2, n2, c2, rfl, ho2, hb2⟩
      have hl2 := ho2.len
      replace hb2 := bt hb1 hb2
      go_wp2_with fail
      refine (HBe.out _).mono ?_
      rintro e w3 ⟨ga, gc, l, rfl, hg, hsm, hll, hb3⟩
      have ho3 := (ho2.keep hb3).more (B' := w.heap.size) hb1.size
      have hB3 := bt hb2 hb3
      have hG3 := Lib.hid (fun W (hb : Below w3.heap.size w3 W) => RdG.to (show RdG w3 ga l.length l from hg.rd) hb)
      clear hg ho2
      go_wp2_with fail
      go_loopw [8, 10] (fun o i wr => ∃ (j : Nat) (a' : Option Addr) (n' c' : Nat) (ys : List Int), j ≤ l.length ∧ i = .int .i64 j ∧ o = .slice a' n' c' ∧ Ow .i64 2 w.heap.size wr a' n' c' ys ∧ n' ≤ 3000 * j ∧ (∀ y ∈ ys, y = 0 ∨ y = 1) ∧ Below w3.heap.size w3 wr) (fun _ i _ => l.length - (intOf i).toNat)
      case atStart => exact ⟨0, _, _, _, _, Nat.zero_le _, rfl, rfl, ho3, by simp at hl2; omega, (fun y hy => by cases hy), Below.refl _ _⟩
      case round =>
        clear ho3
        obtain ⟨j, a', n', c', ys, hj, rfl, rfl, hrow, hnj, hys, hbw⟩ := hrel
        by_cases hlt : j < l.length
        · obtain ⟨p, hp⟩ : ∃ p, l[j]? = some p := ⟨_, List.getElem?_eq_getElem hlt⟩
          obtain ⟨⟨hm1, hm2⟩, hts⟩ := hsm p (List.mem_of_getElem? hp)
          obtain ⟨b0, o0, rfl, hb0, c0, c1⟩ := (hG3.out wr hbw).at_ hp
          have hd : decide ((j : Int) < (l.length : Int)) = true := by rw [decide_eq_true_eq]; omega
          have hl0 : (0 : Int) ≤ (j : Int) := by omega
          have hl1 : (j : Int) < (l.length : Int) := by omega
          go_wp2_with fail
          refine (l09Write_any a' n' c' ys p.md p.tx _ (hrow.rd (fun y hy => fits_bit (hys y hy))) hys (by omega) ⟨hm1, hm2⟩ hts).mono ?_
          rintro e w6 ⟨a6, n6, c6, zs6, rfl, ho6, hn6, hz6, hb6⟩
          have hB6 := bt hbw hb6
          have hrow6 := ho6.more (B' := w.heap.size) (by have h1 := hB3.size; have h2 := hbw.size; omega)
          clear ho6 hb6
          go_wp2_with fail
          go_roundw
          case rel => exact ⟨j + 1, a6, n6, c6, zs6, by omega, by go_num, rfl, hrow6, by omega, hz6, hB6⟩
          case measure => simp [intOf]; omega
        · obtain rfl : j = l.length := by omega
          have hd : decide ((l.length : Int) < (l.length : Int)) = false := by simp
          go_wp2_with fail
          go_ret2
          exact ⟨_, _, _, ys, _, rfl, hrow, by omega, hys, bt hB3 hbw⟩
  · have h0 : (code != 0) = true := by simpa using hc
    go_wp2_with fail
    go_ret2
    exact ⟨_, _, _, [], _, rfl, Ow.nil _ _ _, by omega, (fun z hz => by cases hz), hb1⟩
end Go.Proofs.Ytnajjofaijpciaa
/-
  Contract: bits filled up to a number (bits of this number).
  Conditions: at most 8192 bits.
-/
set_option linter.unusedVariables false
namespace Go.Proofs.Ytnajjofaijpciaa
open Go.RowKit Go.G8
theorem bits_one {xs : List Int} (h : ∀ x ∈ xs, x = 0 ∨ x = 1) {v : Int} (hv : v = 0 ∨ v = 1) : ∀ x ∈ xs ++ [v], x = 0 ∨ x = 1 := by
  intro x hx
  rcases List.mem_append.1 hx with hx | hx
  · exact h x hx
  · rcases List.mem_cons.1 hx with rfl | hx
    · exact hv
    · cases hx
set_option maxHeartbeats 4000000 in
set_option maxRecDepth 20000 in
theorem l11Fill_any (a : Option Addr) (n c : Nat) (xs : List Int) (tt : Nat) (w : World) (h : Rd .i64 w a n xs) (hx : ∀ x ∈ xs, x = 0 ∨ x = 1) (hn : n ≤ tt) (ht : tt ≤ 8192) :
    Calls Try.prog 76 #[.slice a n c, .int .i64 tt] w (fun e w' => ∃ (a' : Option Addr) (c' : Nat) (zs : List Int), e = .returned (.slice a' tt c') ∧ Ow .i64 2 w.heap.size w' a' tt c' zs ∧ (∀ z ∈ zs, z = 0 ∨ z = 1) ∧ Below w.heap.size w w') := by
  obtain ⟨i0, hi, hz0, hz1, hz2⟩ := info_parts info_int64
  have H := Lib.hid h
  clear h
  go_enter Try.func76, Try.ntmps76
  go_wp2_with fail
  refine (l01Own_any a n c xs _ H.out (by omega)).mono ?_
  rintro e w1 ⟨a1, n1, c1, rfl, ho1, hb1⟩
  have hl1 := ho1.len
  have hl := H.out.len
  obtain rfl : n1 = n := by omega
  clear hl1
  go_wp2_with fail
  go_loopw [5, 6] (fun o i wr => ∃ (j m : Nat) (a' : Option Addr) (c' : Nat) (ys : List Int), j ≤ 3 ∧ m ≤ tt ∧ i = .int .i64 j ∧ o = .slice a' m c' ∧ Ow .i64 2 w.heap.size wr a' m c' ys ∧ (∀ y ∈ ys, y = 0 ∨ y = 1) ∧ Below w.heap.size w wr) (fun _ i _ => 3 - (intOf i).toNat)
  case atStart => exact ⟨0, n1, _, _, _, by omega, hn, rfl, rfl, ho1, hx, hb1⟩
  case round =>
    clear ho1
    obtain ⟨j, m, a', c', ys, hj, hm, rfl, rfl, hown, hys, hbw⟩ := hrel
    have hB := hbw.size
    by_cases hlt : j < 3 ∧ m < tt
    · have hd1 : decide ((j : Int) < 3) = true := by rw [decide_eq_true_eq]; omega
      have hd2 : decide ((m : Int) < (tt : Int)) = true := by rw [decide_eq_true_eq]; omega
      go_wp2_with (at_builtin; refine wpList_push .i64 _ rfl _ _ 22 rfl w.heap.size 2 _ i0 8 Try.underlying22 hi hz0 hz1 hz2 (by omega) a' m c' ys _ rfl hown rfl (by omega) (by omega) ?_; intro a2 n2 c2 w2 hown2 hbel2)
      have hn2 : n2 = m + 1 := by have e1 := hown2.len; have e2 := hown.len; simp at e1; omega
      subst hn2
      go_roundw
      case rel => exact ⟨j + 1, m + 1, a2, c2, _, by omega, by omega, by go_num, rfl, hown2, bits_one hys (Or.inl rfl), hbw.trans hbel2⟩
      case measure => simp [intOf]; omega
    · have hd : (decide ((j : Int) < 3) = true ∧ tt = m) ∨ j = 3 := by
        by_cases h1 : j < 3
        · exact Or.inl ⟨by rw [decide_eq_true_eq]; omega, by omega⟩
        · exact Or.inr (by omega)
      clear hlt
      rcases hd with ⟨hd1, rfl⟩ | rfl
      all_goals (
        clear hj
        go_wp2_with fail
        (try rw [show ((3 : Nat) : Int) = 3 from rfl])
        go_loopw [5, 7] (fun o i wr => ∃ (j m : Nat) (a' : Option Addr) (c' : Nat) (ys : List Int), j ≤ m ∧ m ≤ tt ∧ i = .int .i64 j ∧ o = .slice a' m c' ∧ Ow .i64 2 w.heap.size wr a' m c' ys ∧ (∀ y ∈ ys, y = 0 ∨ y = 1) ∧ Below w.heap.size w wr) (fun _ i _ => tt - (intOf i).toNat)
        case atStart => exact ⟨0, _, _, _, _, Nat.zero_le _, (by first | exact hm | exact Nat.le_refl _), rfl, rfl, hown, hys, hbw⟩
        case round =>
          clear hown hys hbw hB hm
          obtain ⟨j, m, a', c', ys, hj, hm, rfl, rfl, hown, hys, hbw⟩ := hrel
          have hB := hbw.size
          by_cases hlt : m < tt
          · have hd3 : decide ((m : Int) < (tt : Int)) = true := by rw [decide_eq_true_eq]; omega
            obtain ⟨K, hK⟩ : ∃ K : Nat, j % 6 = K := ⟨_, rfl⟩
            have hK1 : K < 6 := by omega
            have hK2 : Int.tmod (j : Int) 6 = (K : Int) := by rw [Int.tmod_eq_emod_of_nonneg (by omega)]; omega
            have ew : IntKind.i64.wrap (K : Int) = (K : Int) := IntWalk.i64_in _ (by omega)
            have hown1 := hown.keep (Below.alloc (Below.refl _ _) (Nat.le_refl _) (.cells #[.int .i64 1, .int .i64 1, .int .i64 0, .int .i64 1, .int .i64 0, .int .i64 0] 2))
            have hBa : w.heap.size ≤ (wr.alloc (.cells #[.int .i64 1, .int .i64 1, .int .i64 0, .int .i64 1, .int .i64 0, .int .i64 0] 2)).heap.size := by simp; omega
            have hKc : K = 0 ∨ K = 1 ∨ K = 2 ∨ K = 3 ∨ K = 4 ∨ K = 5 := by omega
            rcases hKc with rfl | rfl | rfl | rfl | rfl | rfl
            all_goals (
              go_wp2_with (at_builtin; refine wpList_push .i64 _ rfl _ _ 22 rfl w.heap.size 2 _ i0 8 Try.underlying22 hi hz0 hz1 hz2 (by omega) a' m c' ys _ rfl hown1 (by simp; rfl) (by omega) hBa ?_; intro a2 n2 c2 w2 hown2 hbel2)
              have hn2 : n2 = m + 1 := by have e1 := hown2.len; have e2 := hown.len; simp at e1; omega
              subst hn2
              go_roundw
              case rel => exact ⟨j + 1, m + 1, a2, c2, _, by omega, by omega, by go_num, rfl, hown2, bits_one hys (by first | exact Or.inl rfl | exact Or.inr rfl), hbw.trans ((Below.alloc (Below.refl _ _) hB _).trans hbel2)⟩
              case measure => simp [intOf]; omega)
          · obtain rfl : m = tt := by omega
            have hd3 : decide ((m : Int) < (m : Int)) = false := by simp
            go_wp2_with fail
            go_ret
            exact ⟨_, _, ys, rfl, hown, hys, hbw⟩)
end Go.Proofs.Ytnajjofaijpciaa
