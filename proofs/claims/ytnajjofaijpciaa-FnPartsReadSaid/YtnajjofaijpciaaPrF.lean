/-
  Contract: a segment written (some bits).
  Conditions: modes that write text, texts of at most 255 bytes.
-/
import Derived.Test.YtnajjofaijpciaaMg37
import Derived.Test.YtnajjofaijpciaaMg24
import Derived.Deep.RegionWith
set_option linter.unusedVariables false
namespace Go.Proofs.Ytnajjofaijpciaa
open Go.RowKit Go.G8
theorem bits_app {xs : List Int} (h : ∀ x ∈ xs, x = 0 ∨ x = 1) (v : Int) (k : Nat) : ∀ x ∈ xs ++ lowBits v k, x = 0 ∨ x = 1 := by
  intro x hx
  rcases List.mem_append.1 hx with hx | hx
  · exact h x hx
  · exact lowBits_bits v k x hx
/-- A row of bits, owned, of bounded length. -/
def BitsOut (m : Nat) (w : World) (e : Ending) (w' : World) : Prop :=
  ∃ (a : Option Addr) (n c : Nat) (zs : List Int), e = .returned (.slice a n c) ∧ Ow .i64 2 w.heap.size w' a n c zs ∧ n ≤ m ∧ (∀ z ∈ zs, z = 0 ∨ z = 1) ∧ Below w.heap.size w w'
set_option maxHeartbeats 4000000 in
set_option maxRecDepth 20000 in
theorem l09Write_any (a : Option Addr) (n c : Nat) (xs : List Int) (m : Int) (s : ByteArray) (w : World) (h : Rd .i64 w a n xs) (hx : ∀ x ∈ xs, x = 0 ∨ x = 1) (hn : n ≤ 10000000) (hm : 1 ≤ m ∧ m ≤ 4) (hs : s.size ≤ 255) :
    Calls Try.prog 91 #[.slice a n c, .agg #[.int .i64 m, .string s]] w (BitsOut (n + 3000) w) := by
  have H := Lib.hid h
  have hA := Below.alloc (Below.refl w.heap.size w) (Nat.le_refl _) (.cells #[.int .i64 m, .string s] 24)
  obtain ⟨p0, p1, p2⟩ := new_two w (.int .i64 m) (.string s) 24
  have HAp := Lib.hid (fun W (hR : Rd .i64 W a n xs) => l01Append_any a n c xs m 3 W hR (by omega) (by omega) (by omega) (by omega))
  clear h
  go_enter Try.func91, Try.ntmps91
  go_wp2_with fail
  have hx1 := bits_app hx m (3 : Int).toNat
  have hxl := H.out.len
  have HAp2 := Lib.hid (fun (a1 : Option Addr) (n1 c1 D : Nat) (W : World) (ho1 : Ow .i64 2 D W a1 n1 c1 (xs ++ lowBits m (3 : Int).toNat)) => l01Append_any a1 n1 c1 _ (s.size : Int) 8 W (ho1.rd (fun x hx' => fits_bit (hx1 x hx'))) (by have e := ho1.len; rw [List.length_append, lowBits_length] at e; have : (3 : Int).toNat = 3 := rfl; omega) (by omega) (by omega) (by omega))
  have HQ := Lib.hid (fun W (hb : Below (w.alloc (.cells #[.int .i64 m, .string s] 24)).heap.size (w.alloc (.cells #[.int .i64 m, .string s] 24)) W) => keep2 hb p2 p0 p1)
  go_region_held3 (fun w' => w'.cell? ⟨w.heap.size, 0, none⟩ = some (.int .i64 m) ∧ w'.cell? ⟨w.heap.size, 1, none⟩ = some (.string s)) (first | go_keep | exact HQ.out _ (Below.refl _ _) | exact HQ.out _ (Below.refl _ _).drew | exact HQ.out _ hb2 | exact HQ.out _ hb1) (first | (go_at_call_of 62 (Value.int IntKind.i64 8); refine (HAp2.out a1 n1 c1 _ _ ho1).mono ?_; rintro e w2 ⟨a2, n2, c2, rfl, ho2, hb2⟩; replace hb2 := bt hb1 hb2) | (go_at_call_of 62 (Value.int IntKind.i64 3); refine (HAp.out _ (H.out.to (hA.drew))).mono ?_; rintro e w1 ⟨a1, n1, c1, rfl, ho1, hb1⟩; replace hb1 := bt (w := (w.alloc (.cells #[.int .i64 m, .string s] 24))) (Below.refl _ _).drew hb1))
  have h3 : (3 : Int).toNat = 3 := rfl
  have h8 : (8 : Int).toNat = 8 := rfl
  have hn2 := ho2.len
  rw [List.length_append, List.length_append, lowBits_length, lowBits_length] at hn2
  have hx2 := bits_app hx1 (s.size : Int) (8 : Int).toNat
  obtain ⟨q0, q1⟩ := HQ.out _ hb2
  have hlt2 := Nat.lt_of_lt_of_le p2 hb2.size
  have hB := bt hA hb2
  have ho3 := ho2.more (B' := w.heap.size) (by have := hb1.size; simp at this; omega)
  obtain ⟨zs, hzs⟩ : ∃ zs, xs ++ lowBits m (3 : Int).toNat ++ lowBits (s.size : Int) (8 : Int).toNat = zs := ⟨_, rfl⟩
  rw [hzs] at ho3 hx2
  have hn3 : n2 ≤ n + 11 := by omega
  clear hzs hn2 ho2 ho1 hb2 hb1 HAp HAp2 HQ p0 p1 p2 hA hx1 h3 h8
  go_wp2_with fail
  refine (l09Group_any m _ hm).mono ?_
  rintro e w3 ⟨rfl, rfl⟩
  have hBc : gBase m = 10 ∨ gBase m = 45 ∨ gBase m = 256 := by rcases mode_cases hm with rfl | rfl | rfl | rfl <;> decide
  have hSc : 1 ≤ gSize m ∧ gSize m ≤ 3 := by rcases mode_cases hm with rfl | rfl | rfl | rfl <;> decide
  obtain ⟨B, hBe⟩ : ∃ B, gBase m = B := ⟨_, rfl⟩
  obtain ⟨Sz, hSe⟩ : ∃ Sz : Nat, gSize m = (Sz : Int) := Int.eq_ofNat_of_zero_le (by omega)
  rw [hBe] at hBc ⊢
  rw [hSe] at hSc ⊢
  go_wp2_with fail
  go_loopw [5, 9] (fun o i wr => ∃ (j : Nat) (a' : Option Addr) (n' c' : Nat) (ys : List Int), j ≤ s.size + 2 ∧ i = .int .i64 j ∧ o = .slice a' n' c' ∧ Ow .i64 2 w.heap.size wr a' n' c' ys ∧ n' ≤ n + 11 + 11 * j ∧ (∀ y ∈ ys, y = 0 ∨ y = 1) ∧ Below w2.heap.size w2 wr) (fun _ i _ => s.size - (intOf i).toNat)
  case atStart => exact ⟨0, a2, n2, c2, zs, by omega, rfl, rfl, ho3, by omega, hx2, Below.refl _ _⟩
  case round =>
    clear ho3
    obtain ⟨wo, rfl⟩ : ∃ wo : World, wo = wr := ⟨_, rfl⟩
    obtain ⟨j, a', n', c', ys, hj, rfl, rfl, hrow, hnj, hys, hbw⟩ := hrel
    obtain ⟨r0, r1⟩ := keep2 hbw hlt2 q0 q1
    have hltr := Nat.lt_of_lt_of_le hlt2 hbw.size
    by_cases hlt : j < s.size
    · have hd : decide ((j : Int) < (s.size : Int)) = true := by rw [decide_eq_true_eq]; omega
      obtain ⟨T, hT⟩ : ∃ T : Nat, min Sz (s.size - j) = T := ⟨_, rfl⟩
      have hT1 : 1 ≤ T ∧ T ≤ Sz ∧ j + T ≤ s.size := by omega
      have e0 : IntKind.i64.wrap ((s.size : Int) - (j : Int)) = ((s.size - j : Nat) : Int) := (IntWalk.i64_in _ (by omega)).trans (by omega)
      have e1 : IntKind.i64.wrap ((j : Int) + (T : Int)) = (j : Int) + (T : Int) := IntWalk.i64_in _ (by omega)
      have e2 : IntKind.i64.wrap ((j : Int) + (Sz : Int)) = ((j + Sz : Nat) : Int) := (IntWalk.i64_in _ (by omega)).trans (by omega)
      go_wp2_with fail
      all_goals (first | rw [show ((s.size - j : Nat) : Int) = (T : Int) by omega] | (obtain rfl : T = Sz := by omega))
      all_goals (
        go_loopw [11, 12] (fun vv kk wr => ∃ (K : Nat) (v : Int), j ≤ K ∧ K ≤ j + T ∧ kk = .int .i64 (K : Int) ∧ vv = .int .i64 v ∧ (-27000000 ≤ v ∧ v ≤ 27000000) ∧ (K = j → v = 0) ∧ (K = j + 1 → -300 ≤ v ∧ v ≤ 300) ∧ (K = j + 2 → -90000 ≤ v ∧ v ≤ 90000) ∧ Below wo.heap.size wo wr) (fun _ kk _ => (j + T) - (intOf kk).toNat)
        case atStart => exact ⟨j, 0, Nat.le_refl _, by omega, rfl, rfl, by omega, (fun _ => rfl), (fun e => by omega), (fun e => by omega), Below.refl _ _⟩
        case round =>
          obtain ⟨K, v, hK1, hK2, rfl, rfl, hv, hv0, hv1, hv2, hbi⟩ := hrel
          obtain ⟨t0, t1⟩ := keep2 hbi hltr r0 r1
          have hlti := Nat.lt_of_lt_of_le hltr hbi.size
          by_cases hl3 : K < j + T
          · have hd3 : decide ((K : Int) < (j : Int) + (T : Int)) = true := by rw [decide_eq_true_eq]; omega
            obtain ⟨x, hsx, hx', hx1', hx2'⟩ := str_at s K (by omega)
            obtain ⟨P, hP⟩ : ∃ P, v * B = P := ⟨_, rfl⟩
            have hPb : (K = j → P = 0) ∧ (K = j + 1 → -76800 ≤ P ∧ P ≤ 76800) ∧ (K = j + 2 → -23040000 ≤ P ∧ P ≤ 23040000) := by
              rw [← hP]
              refine ⟨fun e => by rw [hv0 e, Int.zero_mul], fun e => ?_, fun e => ?_⟩
              · have := hv1 e
                rcases hBc with rfl | rfl | rfl <;> omega
              · have := hv2 e
                rcases hBc with rfl | rfl | rfl <;> omega
            have hjc : K = j ∨ K = j + 1 ∨ K = j + 2 := by omega
            obtain ⟨g0, g1, g2⟩ := hPb
            have hPw : -23040000 ≤ P ∧ P ≤ 23040000 := by
              rcases hjc with e | e | e
              · have := g0 e; omega
              · have := g1 e; omega
              · have := g2 e; omega
            have ew1 : IntKind.i64.wrap P = P := IntWalk.i64_in _ (by omega)
            have hi0 : (0 : Int) ≤ (K : Int) := by omega
            have hi1 : (K : Int) < (s.size : Int) := by omega
            have ewx : IntKind.i64.wrap x = x := IntWalk.i64_in _ (by omega)
            have HCV := Lib.hid (fun W => charValue_any m x W hm ⟨hx1', hx2'⟩)
            have HQ := Lib.hid (fun W (hb : Below wr.heap.size wr W) => keep2 hb hlti t0 t1)
            have HG := Lib.hid (And.intro g0 (And.intro g1 g2))
            clear g0 g1 g2 hv0 hv1 hv2
            go_wp2_with fail
            go_region_held3 (fun w' => w'.cell? ⟨w.heap.size, 0, none⟩ = some (.int .i64 m) ∧ w'.cell? ⟨w.heap.size, 1, none⟩ = some (.string s)) (first | go_keep | exact HQ.out _ (Below.refl _ _) | exact HQ.out _ (Below.refl _ _).drew | exact HQ.out _ hb5) (first | (go_at_call 95; with_reducible refine (HCV.out _).mono ?_; rintro e w5 ⟨r, rfl, hr, hr4, hb5⟩; have ew2 : IntKind.i64.wrap (P + r) = P + r := IntWalk.i64_in _ (by omega); replace hb5 := bt (w := wr) (by first | exact Below.refl _ _ | exact (Below.refl _ _).drew) hb5))
            all_goals (
              obtain ⟨g0, g1, g2⟩ := HG.out
              have eK : IntKind.i64.wrap ((K : Int) + 1) = ((K + 1 : Nat) : Int) := (IntWalk.i64_in _ (by omega)).trans (by omega)
              go_wp2_with fail
              refine ⟨⟨K + 1, P + r, by omega, by omega, by go_num, rfl, by omega, (fun e => by omega), (fun e => ?_), (fun e => ?_), bt hbi hb5⟩, by simp [intOf]; omega⟩
              · have := g0 (by omega); omega
              · have := g1 (by omega); omega)
          · have hd3 : decide ((K : Int) < (j : Int) + (T : Int)) = false := by rw [decide_eq_false_iff_not]; omega
            have HWd := Lib.hid (fun W => l09Width_any m T W hm (by rw [hSe]; omega))
            obtain ⟨gw0, gw1⟩ := gWidth_bd m T
            obtain ⟨Wd, hWd⟩ : ∃ Wd : Nat, gWidth m T = (Wd : Int) := Int.eq_ofNat_of_zero_le gw0
            rw [hWd] at HWd gw1
            clear hv0 hv1 hv2
            go_wp2_with fail
            refine (HWd.out _).mono ?_
            rintro e w5 ⟨rfl, hb5⟩
            have hbo := bt hbi hb5
            have hrow5 := hrow.keep hbo
            clear hb5
            go_wp2_with fail
            refine (l01Append_any a' n' c' ys v (Wd : Int) _ (hrow5.rd (fun y hy => fits_bit (hys y hy))) (by omega) (by omega) (by omega) (by omega)).mono ?_
            rintro e w6 ⟨a6, n6, c6, rfl, ho6, hb6⟩
            have hl6 := ho6.len
            have hl5 := hrow5.len
            rw [List.length_append, lowBits_length, Int.toNat_natCast] at hl6
            have hbw6 := bt (bt hbw hbo) hb6
            have hrow6 := ho6.more (B' := w.heap.size) (by have h1 := hB.size; have h2 := hbw.size; have h3 := hbo.size; omega)
            have hbits6 := bits_app hys v ((Wd : Int)).toNat
            clear ho6 hb6 hbo hrow5
            have e3 : IntKind.i64.wrap ((j : Int) + (T : Int)) = ((j + T : Nat) : Int) := (IntWalk.i64_in _ (by omega)).trans (by omega)
            go_wp2_with fail
            first
            | refine ⟨⟨j + Sz, a6, n6, c6, _, by omega, by go_num, rfl, hrow6, by omega, hbits6, hbw6⟩, by simp [intOf]; omega⟩
            | refine ⟨⟨j + T, a6, n6, c6, _, by omega, by go_num, rfl, hrow6, by omega, hbits6, hbw6⟩, by simp [intOf]; omega⟩)
    · have hd : decide ((j : Int) < (s.size : Int)) = false := by rw [decide_eq_false_iff_not]; omega
      go_wp2_with fail
      go_ret
      exact ⟨_, _, _, ys, rfl, hrow, by omega, hys, bt hB hbw⟩
end Go.Proofs.Ytnajjofaijpciaa
