/-
  Texts of the proof, one behind the other: each bears its own heading.
  Conditions: as the headings say.
-/
import Derived.Test.YtnajjofaijpciaaMg39
import Derived.Test.YtnajjofaijpciaaPrJ
import Derived.Test.YtnajjofaijpciaaSmallD
/-
  Contract: the bits of a part (some bits).
  Conditions: texts of at most 1000 bytes, small numbers.
-/
set_option linter.unusedVariables false
namespace Go.Proofs.Ytnajjofaijpciaa
open Go.RowKit Go.G8
set_option maxHeartbeats 4000000 in
set_option maxRecDepth 20000 in
theorem l12Bits_any (ix ct pr : Int) (s : ByteArray) (n : Nat) (w : World) (hs : s.size = n) (hn : n ≤ 1000) (hix : -1000 ≤ ix ∧ ix ≤ 1000) (hct : -1000 ≤ ct ∧ ct ≤ 1000) (hpr : -1000 ≤ pr ∧ pr ≤ 1000) :
    Calls Try.prog 74 #[.agg #[.int .i64 ix, .int .i64 ct, .int .i64 pr, .string s]] w (BitsOut 4000000 w) := by
  have HBe := Lib.hid (fun W => l10Best_any s n W hs hn)
  clear hs
  have hS0 := Slot4.new w (.int .i64 ix) (.int .i64 ct) (.int .i64 pr) (.string s) 45
  have hA := Below.alloc (Below.refl w.heap.size w) (Nat.le_refl _) (.cells #[.int .i64 ix, .int .i64 ct, .int .i64 pr, .string s] 45)
  have hR0 : Rd .i64 w none 0 [] := (Ow.nil w 2 w.heap.size (K := .i64)).rd (fun x hx => by cases hx)
  go_enter Try.func74, Try.ntmps74
  go_wp2_with fail
  refine (l01Append_any none 0 0 [] 5 3 _ (hR0.to hA) (by omega) (by omega) (by omega) (by omega)).mono ?_
  rintro e w1 ⟨a1, n1, c1, rfl, ho1, hb1⟩
  have hS1 := hS0.keep hb1
  have hx1 := bits_app (xs := []) (fun x hx => by cases hx) 5 (3 : Int).toNat
  have hl1 := ho1.len
  rw [List.length_append, lowBits_length, show (3 : Int).toNat = 3 from rfl] at hl1
  simp at hl1
  have hn1 : n1 ≤ 3 := by omega
  clear hl1
  have HO1 := Lib.hid (ho1.rd (fun x hx => fits_bit (hx1 x hx)))
  have hB1 := bt hA hb1
  have HK := Lib.hid (fun W (hb : Below w1.heap.size w1 W) => hS1.keep hb)
  obtain ⟨C1, hC1⟩ : ∃ C1, ct - 1 = C1 := ⟨_, rfl⟩
  have ew : IntKind.i64.wrap (ct - 1) = C1 := (IntWalk.i64_in _ (by omega)).trans hC1
  have hCb : -2000 ≤ C1 ∧ C1 ≤ 2000 := by omega
  clear hC1
  have HP1 := Lib.hid (fun W (hR : Rd .i64 W a1 n1 ([] ++ lowBits 5 (3 : Int).toNat)) => l01Append_any a1 n1 c1 _ ix 3 W hR (by omega) (by omega) (by omega) (by omega))
  have HQ := Lib.hid (fun W (hb : Below w1.heap.size w1 W) => (fun (z : Slot4 W w.heap.size (.int .i64 ix) (.int .i64 ct) (.int .i64 pr) (.string s)) => And.intro z.c0 (And.intro z.c1 (And.intro z.c2 z.c3))) (hS1.keep hb))
  have HP2 := Lib.hid (fun (a2 : Option Addr) (n2 c2 D : Nat) (W : World) (ho2 : Ow .i64 2 D W a2 n2 c2 ([] ++ lowBits 5 (3 : Int).toNat ++ lowBits ix (3 : Int).toNat)) => l01Append_any a2 n2 c2 _ C1 3 W (ho2.rd (fun x hx' => fits_bit (bits_app hx1 ix _ x hx'))) (by have e := ho2.len; rw [List.length_append, List.length_append, lowBits_length, lowBits_length] at e; have : (3 : Int).toNat = 3 := rfl; simp at e; omega) (by omega) (by omega) (by omega))
  have HP3 := Lib.hid (fun (a3 : Option Addr) (n3 c3 D : Nat) (W : World) (ho3 : Ow .i64 2 D W a3 n3 c3 ([] ++ lowBits 5 (3 : Int).toNat ++ lowBits ix (3 : Int).toNat ++ lowBits C1 (3 : Int).toNat)) => l01Append_any a3 n3 c3 _ pr 8 W (ho3.rd (fun x hx' => fits_bit (bits_app (bits_app hx1 ix _) C1 _ x hx'))) (by have e := ho3.len; rw [List.length_append, List.length_append, List.length_append, lowBits_length, lowBits_length, lowBits_length] at e; have : (3 : Int).toNat = 3 := rfl; simp at e; omega) (by omega) (by omega) (by omega))
  obtain ⟨s0, s1, s2, s3, s4, s5⟩ := hS1
  clear hS0 hA
  go_wp2_with fail
  go_region_held3 (fun w' => w'.cell? ⟨w.heap.size, 0, none⟩ = some (.int .i64 ix) ∧ w'.cell? ⟨w.heap.size, 1, none⟩ = some (.int .i64 ct) ∧ w'.cell? ⟨w.heap.size, 2, none⟩ = some (.int .i64 pr) ∧ w'.cell? ⟨w.heap.size, 3, none⟩ = some (.string s)) (first | exact HQ.out _ hb4 | exact HQ.out _ hb3 | exact HQ.out _ hb2 | exact HQ.out _ (Below.refl _ _) | exact HQ.out _ (Below.refl _ _).drew | go_keep) (first
    | (go_at_call_of 62 (Value.int IntKind.i64 8); (with_reducible refine (HP3.out a3 n3 c3 _ _ ho3).mono ?_); rintro e w4 ⟨a4, n4, c4, rfl, ho4, hb4⟩; replace hb4 := bt hb3 hb4)
    | (go_at_call_of 62 (Value.int IntKind.i64 C1); (with_reducible refine (HP2.out a2 n2 c2 _ _ ho2).mono ?_); rintro e w3 ⟨a3, n3, c3, rfl, ho3, hb3⟩; replace hb3 := bt hb2 hb3)
    | (go_at_call_of 62 (Value.int IntKind.i64 ix); refine (HP1.out _ (by first | exact HO1.out | exact HO1.out.to (Below.refl _ _).drew)).mono ?_; rintro e w2 ⟨a2, n2, c2, rfl, ho2, hb2⟩; replace hb2 := bt (w := w1) (by first | exact Below.refl _ _ | exact (Below.refl _ _).drew) hb2))
  have hx4 := bits_app (bits_app (bits_app hx1 ix (3 : Int).toNat) C1 (3 : Int).toNat) pr (8 : Int).toNat
  have hl4 := ho4.len
  rw [List.length_append, List.length_append, List.length_append, List.length_append, lowBits_length, lowBits_length, lowBits_length, lowBits_length, show (3 : Int).toNat = 3 from rfl, show (8 : Int).toNat = 8 from rfl] at hl4
  have hn4 : n4 ≤ 17 := by simp at hl4; omega
  obtain ⟨t0, t1, t2, t3⟩ := HQ.out _ hb4
  have hB4 := bt hB1 hb4
  have ho4' := ho4.more (B' := w.heap.size) (by have h1 := hB1.size; have h2 := hb3.size; omega)
  obtain ⟨xs, hxs⟩ : ∃ xs, [] ++ lowBits 5 (3 : Int).toNat ++ lowBits ix (3 : Int).toNat ++ lowBits C1 (3 : Int).toNat ++ lowBits pr (8 : Int).toNat = xs := ⟨_, rfl⟩
  rw [hxs] at hx4 ho4'
  have hlt4 := Nat.lt_of_lt_of_le s0 hb4.size
  clear hxs hl4 ho4 ho3 ho2 ho1 hb1 hb2 hb3 hb4 HQ HP1 HP2 HP3 HK HO1 hx1 s0 s1 s2 s3 s4 s5 ew hB1
  go_wp2_with fail
  refine (HBe.out _).mono ?_
  rintro e w5 ⟨ga, gc, l, rfl, hg, hsm, hll, hb5⟩
  have ho5 := ho4'.keep hb5
  have hB5 := bt hB4 hb5
  have hG5 := Lib.hid (fun W (hb : Below w5.heap.size w5 W) => RdG.to (show RdG w5 ga l.length l from hg.rd) hb)
  clear hg
  go_wp2_with fail
  go_loopw [3, 5] (fun o i wr => ∃ (j : Nat) (a' : Option Addr) (n' c' : Nat) (ys : List Int), j ≤ l.length ∧ i = .int .i64 j ∧ o = .slice a' n' c' ∧ Ow .i64 2 w.heap.size wr a' n' c' ys ∧ n' ≤ n4 + 3000 * j ∧ (∀ y ∈ ys, y = 0 ∨ y = 1) ∧ Below w5.heap.size w5 wr) (fun _ i _ => l.length - (intOf i).toNat)
  case atStart => exact ⟨0, _, _, _, _, Nat.zero_le _, rfl, rfl, ho5, by omega, hx4, Below.refl _ _⟩
  case round =>
    clear ho5
    obtain ⟨j, a', n', c', ys, hj, rfl, rfl, hrow, hnj, hys, hbw⟩ := hrel
    by_cases hlt : j < l.length
    · obtain ⟨p, hp⟩ : ∃ p, l[j]? = some p := ⟨_, List.getElem?_eq_getElem hlt⟩
      obtain ⟨⟨hm1, hm2⟩, hts⟩ := hsm p (List.mem_of_getElem? hp)
      obtain ⟨b0, o0, rfl, hb0, c0, c1⟩ := (hG5.out wr hbw).at_ hp
      have hd : decide ((j : Int) < (l.length : Int)) = true := by rw [decide_eq_true_eq]; omega
      have hl0 : (0 : Int) ≤ (j : Int) := by omega
      have hl1 : (j : Int) < (l.length : Int) := by omega
      go_wp2_with fail
      refine (l09Write_any a' n' c' ys p.md p.tx _ (hrow.rd (fun y hy => fits_bit (hys y hy))) hys (by omega) ⟨hm1, hm2⟩ hts).mono ?_
      rintro e w6 ⟨a6, n6, c6, zs6, rfl, ho6, hn6, hz6, hb6⟩
      have hB6 := bt hbw hb6
      have hrow6 := ho6.more (B' := w.heap.size) (by have h1 := hB5.size; have h2 := hbw.size; omega)
      clear ho6 hb6
      go_wp2_with fail
      go_roundw
      case rel => exact ⟨j + 1, a6, n6, c6, zs6, by omega, by go_num, rfl, hrow6, by omega, hz6, hB6⟩
      case measure => simp [intOf]; omega
    · obtain rfl : j = l.length := by omega
      have hd : decide ((l.length : Int) < (l.length : Int)) = false := by simp
      go_wp2_with fail
      go_ret
      exact ⟨_, _, _, ys, rfl, hrow, by omega, hys, bt hB5 hbw⟩
end Go.Proofs.Ytnajjofaijpciaa
/-
  Contract: a part encoded (some elements, as many as the capacity says).
  Conditions: texts of at most 1000 bytes, small numbers.
-/
set_option linter.unusedVariables false
namespace Go.Proofs.Ytnajjofaijpciaa
open Go.RowKit Go.G8
theorem start7 (w : World) (x y z a b c d : Value) (T U : TypeId) : Below w.heap.size w ((w.alloc (.cells #[x, y, z] T)).alloc (.cells #[a, b, c, d] U)) ∧ w.heap.size < ((w.alloc (.cells #[x, y, z] T)).alloc (.cells #[a, b, c, d] U)).heap.size ∧
    ((w.alloc (.cells #[x, y, z] T)).alloc (.cells #[a, b, c, d] U)).cell? ⟨w.heap.size, 0, none⟩ = some x ∧ ((w.alloc (.cells #[x, y, z] T)).alloc (.cells #[a, b, c, d] U)).cell? ⟨w.heap.size, 1, none⟩ = some y ∧ ((w.alloc (.cells #[x, y, z] T)).alloc (.cells #[a, b, c, d] U)).cell? ⟨w.heap.size, 2, none⟩ = some z ∧
    Slot4 ((w.alloc (.cells #[x, y, z] T)).alloc (.cells #[a, b, c, d] U)) (w.heap.size + 1) a b c d := by
  refine ⟨Below.alloc (Below.alloc (Below.refl w.heap.size w) (Nat.le_refl _) _) (by simp) _, by simp; omega, ?_, ?_, ?_, ?_⟩
  case refine_4 =>
    have := Slot4.new (w.alloc (.cells #[x, y, z] T)) a b c d U
    rwa [show (w.alloc (.cells #[x, y, z] T)).heap.size = w.heap.size + 1 by simp] at this
  all_goals (rw [alloc_cell_old _ _ _ _ (by simp), cell_of_row _ _ _ _ _ (0, 0) (heap_alloc_new w _)]; rfl)
set_option maxHeartbeats 4000000 in
set_option maxRecDepth 20000 in
theorem encodePart_any (p q y ix ct pr cap : Int) (s : ByteArray) (n : Nat) (w : World) (hs : s.size = n) (hn : n ≤ 1000) (hcap : -100000 ≤ cap ∧ cap ≤ 100000) (hix : -1000 ≤ ix ∧ ix ≤ 1000) (hct : -1000 ≤ ct ∧ ct ≤ 1000) (hpr : -1000 ≤ pr ∧ pr ≤ 1000) :
    Calls Try.prog 51 #[.agg #[.int .i64 p, .int .i64 q, .int .i64 y], .agg #[.int .i64 ix, .int .i64 ct, .int .i64 pr, .string s], .int .i64 cap] w (EncOut p q y cap w) := by
  have HH := Lib.hid (start7 w (.int .i64 p) (.int .i64 q) (.int .i64 y) (.int .i64 ix) (.int .i64 ct) (.int .i64 pr) (.string s) 36 45)
  have HIs := Lib.hid (fun w => isField_spec p q y w)
  have HCa := Lib.hid (fun w => l11Capacity_any cap w)
  have HIP := Lib.hid (fun w => specIsPart_any ix ct pr s w (by omega) (by omega) (by omega) (by omega))
  have HBi := Lib.hid (fun w => l12Bits_any ix ct pr s n w hs hn hix hct hpr)
  clear hs hix hct hpr
  cases hf : fieldB p q y with
  | false =>
    rw [hf] at HIs
    go_enter Try.func51, Try.ntmps51
    go_wp2_with fail
    obtain ⟨hw0, hlt, d0, d1, d2, hS⟩ := HH.out
    refine (HIs.out _).mono ?_
    rintro e w1 ⟨rfl, hb1⟩
    have hB := bt hw0 hb1
    clear hS
    go_wp2_with fail
    go_ret2
    exact EncOut.no _ _ _ _ _ (by omega) hB
  | true =>
    rw [hf] at HIs
    have hbd := fsize_bd hf
    have HD := Lib.hid (wOf_bd hbd.1 hbd.2)
    have HWd := Lib.hid (fun w => l11Width_any p q y w hf)
    have HF := Lib.hid hf
    clear hbd hf
    go_enter Try.func51, Try.ntmps51
    go_wp2_with fail
    obtain ⟨hw0, hlt, d0, d1, d2, hS⟩ := HH.out
    refine (HIs.out _).mono ?_
    rintro e w1 ⟨rfl, hb1⟩
    obtain ⟨hlt, d0, d1, d2⟩ := fld_keep hb1 hlt d0 d1 d2
    obtain ⟨s0, s1, s2, s3, s4, s5⟩ := hS.keep hb1
    have hB := bt hw0 hb1
    clear hb1 hw0 hS HH
    go_wp2_with fail
    refine (HIP.out _).mono ?_
    cases hP : isPart ix ct pr s with
    | false =>
      clear hP
      rintro e w2 ⟨rfl, hb2⟩
      replace hB := bt hB hb2
      go_wp2_with fail
      go_ret2
      exact EncOut.no _ _ _ _ _ (by omega) hB
    | true =>
      clear hP
      rintro e w2 ⟨rfl, hb2⟩
      obtain ⟨hlt, d0, d1, d2⟩ := fld_keep hb2 hlt d0 d1 d2
      have hS2 := Slot4.keep ⟨s0, s1, s2, s3, s4, s5⟩ hb2
      clear s0 s1 s2 s3 s4 s5
      replace hB := bt hB hb2
      clear hb2
      go_wp2_with fail
      refine (HCa.out _).mono ?_
      by_cases hc : 1 ≤ cap ∧ cap ≤ 1500
      · have hcd : decide (1 ≤ cap ∧ cap ≤ 1500) = true := by rw [decide_eq_true_eq]; exact hc
        rw [hcd]
        obtain ⟨N, rfl⟩ : ∃ N : Nat, cap = N := ⟨cap.toNat, by omega⟩
        have hN : 1 ≤ N ∧ N ≤ 1500 := by omega
        clear hcd hc hcap HCa
        rintro e w1' ⟨rfl, rfl⟩
        go_wp2_with fail
        refine (HWd.out _).mono ?_
        obtain ⟨wd, hwd⟩ : ∃ wd, wOf (fsize p q) = wd := ⟨_, rfl⟩
        have hw9 := HD.out
        rw [hwd] at hw9 ⊢
        obtain ⟨hw1, hw2, -⟩ := hw9
        rintro e w3 ⟨rfl, hb3⟩
        replace hB := bt hB hb3
        obtain ⟨s0, s1, s2, s3, s4, s5⟩ := hS2.keep hb3
        clear hb3 d0 d1 d2 hS2
        go_wp2_with fail
        refine (HBi.out _).mono ?_
        rintro e w4 ⟨a4, k4, c4, zs, rfl, ho4, hk4, hz4, hb4⟩
        have ho4' := ho4.more (B' := w.heap.size) hB.size
        replace hB := bt hB hb4
        clear ho4 hb4 s0 s1 s2 s3 s4 s5
        obtain ⟨T, hT⟩ : ∃ T : Nat, wd * N = T := ⟨_, rfl⟩
        have hTb : T ≤ 13500 := by rw [← hT]; exact Nat.le_trans (Nat.mul_le_mul hw2 hN.2) (by omega)
        have hTi : (N : Int) * (wd : Int) = (T : Int) := by rw [← hT, Int.mul_comm]; simp
        have ew : IntKind.i64.wrap ((N : Int) * (wd : Int)) = (T : Int) := (IntWalk.i64_in _ (by omega)).trans hTi
        have HT := Lib.hid hT.symm
        clear hTi hT
        by_cases hbig : 8192 < T
        · have hd : decide (8192 < (T : Int)) = true := by rw [decide_eq_true_eq]; omega
          go_wp2_with fail
          go_ret2
          exact EncOut.no _ _ _ _ _ (by omega) hB
        · have hd : decide (8192 < (T : Int)) = false := by rw [decide_eq_false_iff_not]; omega
          by_cases hlong : T < k4
          · have hd2 : decide ((T : Int) < (k4 : Int)) = true := by rw [decide_eq_true_eq]; omega
            go_wp2_with fail
            go_ret2
            exact EncOut.no _ _ _ _ _ (by omega) hB
          · have hd2 : decide ((T : Int) < (k4 : Int)) = false := by rw [decide_eq_false_iff_not]; omega
            have HFi := Lib.hid (fun W (hR : Rd .i64 W a4 k4 zs) => l11Fill_any a4 k4 c4 zs T W hR hz4 (by omega) (by omega))
            have HR := Lib.hid (ho4'.rd (fun z hz => fits_bit (hz4 z hz)))
            go_wp2_with fail
            refine (HFi.out _ HR.out).mono ?_
            rintro e w5 ⟨a5, c5, zs5, rfl, ho5, hz5, hb5⟩
            have hB5 := bt hB hb5
            go_wp2_with fail
            refine (l11Elements_any a5 T c5 zs5 wd N _ (ho5.rd (fun z hz => fits_bit (hz5 z hz))) (Lib.hid hz5) ⟨hw1, hw2⟩ (by omega) HT.out).mono ?_
            rintro e w6 ⟨a6, n6, c6, rfl, ho6, hb6⟩
            have hl6 := ho6.len
            rw [elemsL_length] at hl6
            have hf6 := elemsL_fits hz5 wd N (by omega)
            replace ho6 := ho6.more (B' := w.heap.size) hB5.size
            go_wp2_with fail
            go_ret2
            exact ⟨_, _, _, _, _, rfl, ho6, hf6, (fun _ => ⟨HF.out, by omega, by omega⟩), by omega, bt hB5 hb6⟩
      · have hcd : decide (1 ≤ cap ∧ cap ≤ 1500) = false := by rw [decide_eq_false_iff_not]; exact hc
        rw [hcd]
        clear hcd hc hcap HCa
        rintro e w1' ⟨rfl, rfl⟩
        go_wp2_with fail
        go_ret2
        exact EncOut.no _ _ _ _ _ (by omega) hB
end Go.Proofs.Ytnajjofaijpciaa
