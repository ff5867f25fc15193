/-
  Texts of the proof, one behind the other: each bears its own heading.
  Conditions: as the headings say.
-/
import Derived.Test.YtnajjofaijpciaaPrC
import Derived.Test.YtnajjofaijpciaaMg23
import Derived.Deep.AppendLies
import Derived.Deep.RegionLaw
import Derived.Test.YtnajjofaijpciaaMg25
/-
  Contracts: the best segmentation (some one with small segments); the length of the best one (some number).
  Conditions: messages of at most 1000 bytes.
-/
set_option linter.unusedVariables false
namespace Go.Proofs.Ytnajjofaijpciaa
open Go.RowKit Go.G8
def smallG (l : List SegV) : Prop := ∀ p ∈ l, (1 ≤ p.md ∧ p.md ≤ 4) ∧ p.tx.size ≤ 255
set_option maxHeartbeats 4000000 in
set_option maxRecDepth 20000 in
theorem l10Best_any (s : ByteArray) (n : Nat) (w : World) (hs : s.size = n) (hn : n ≤ 1000) :
    Calls Try.prog 90 #[.string s] w (fun e w' => ∃ (a : Option Addr) (c : Nat) (l : List SegV), e = .returned (.slice a l.length c) ∧ OwV 24 2 w.heap.size w' a l.length c (l.flatMap sgC) ∧ smallG l ∧ l.length ≤ n ∧ Below w.heap.size w w') := by
  obtain ⟨i0, hi, hz0, hz1, hz2⟩ := info_parts info_segment
  subst hs
  go_enter Try.func90, Try.ntmps90
  go_wp2_with fail
  refine (l10Table_any s s.size _ rfl hn).mono ?_
  rintro e w1 ⟨ta, tc, T, rfl, hTo, hT, hb1⟩
  have hgw := hb1.size
  obtain ⟨g, rfl, hg1, hg2⟩ := hTo.form (by omega)
  have HO := Lib.hid (OwV.empty 24 2 w1.heap.size w1 (Nat.le_refl _))
  have HA := Lib.hid (Below.alloc (Below.refl w1.heap.size w1) (Nat.le_refl _) (.cells #[] 24))
  go_wp2_with fail
  go_loopw [4, 5] (fun o i wr => ∃ (k : Nat) (l : List SegV) (a' : Option Addr) (c' : Nat), k ≤ s.size ∧ i = .int .i64 k ∧ o = .slice a' l.length c' ∧ OwV 24 2 w1.heap.size wr a' l.length c' (l.flatMap sgC) ∧ smallG l ∧ l.length ≤ k ∧ Below w1.heap.size w1 wr) (fun _ i _ => s.size - (intOf i).toNat)
  case atStart => exact ⟨0, [], _, _, Nat.zero_le _, rfl, rfl, HO.out, (fun p hp => by cases hp), Nat.le_refl _, HA.out⟩
  case round =>
    obtain ⟨k, l, a', c', hk, rfl, rfl, hown, hsm, hlk, hB⟩ := hrel
    by_cases hlt : k < s.size
    · have hd : decide ((k : Int) < (s.size : Int)) = true := by rw [decide_eq_true_eq]; omega
      obtain ⟨q, hq, ⟨hz1', hz2', hz3'⟩, hmd, hln, hct⟩ := hT.good k (Nat.zero_le _) hlt
      obtain ⟨Z, hZ⟩ : ∃ Z : Nat, q.sz = (Z : Int) := Int.eq_ofNat_of_zero_le (by omega)
      have hTw := hTo.keep hB
      obtain ⟨c0, c1, c2, c3⟩ := ownC_cells hTw hq
      rw [hZ] at c2 hz1' hz2' hz3'
      have hl0 : (0 : Int) ≤ (k : Int) := by omega
      have hl1 : (k : Int) < (s.size : Int) + 1 := by omega
      have hl2 : (k : Int) < ((s.size + 1 : Nat) : Int) := by omega
      have ew : IntKind.i64.wrap ((k : Int) + (Z : Int)) = (k : Int) + (Z : Int) := IntWalk.i64_in _ (by omega)
      have hl3 : (0 : Int) ≤ (k : Int) + (Z : Int) := by omega
      have hl4 : (k : Int) + (Z : Int) ≤ (s.size : Int) := by omega
      have hl5 : (k : Int) ≤ (k : Int) + (Z : Int) := by omega
      have HOW := Lib.hid (show wr.drew.ownsRow w1.heap.size 24 2 (.slice a' l.length c') l.length (l.flatMap sgC) from hown.keep ((Below.refl wr.heap.size wr).drew))
      have HD := Lib.hid hB.size
      go_wp2_with fail
      go_region_law ((refine step_append_lies _ (by rfl) _ _ _ (by rfl) w1.heap.size 24 i0 _ 2 24 Try.underlying33 hi hz0 hz1 hz2 (by rfl) (by decide) (.slice a' l.length c') l.length (l.flatMap sgC) (by rfl) (World.ownsRow.alloc HOW.out _) ⟨wr.heap.size, 0, none⟩ 1 1 _ (by rfl) (by rfl) (World.news_of_block (heap_alloc_new wr.drew _)) (by intro u hu; simp at hu; rcases hu with rfl | rfl <;> rfl) (by decide) (by unfold maxLen; omega) (by omega) (by have := HD.out; simp; omega) (wr.heap.size + 1) (by simp) ?_; intro gg cap w3 r1 r2 r3 r4))
      all_goals (
        have hA : Below w1.heap.size w1 (wr.alloc (.cells #[.int .i64 q.md, .string (s.extract k ((k : Int) + (Z : Int)).toNat)] 24)).drew := (hB.alloc hB.size _).drew
        have hB3 := hA.grown r2 (by have := hB.size; simp; omega) (fun x e => by rw [ownBlock_slice] at e; exact (hown.lt x e).1)
        obtain ⟨c0, c1, c2, c3⟩ := ownC_cells (hTo.keep hB3) hq
        rw [hZ] at c2
        have hS : (s.extract k ((k : Int) + (Z : Int)).toNat).size ≤ 255 := by rw [ByteArray.size_extract]; omega
        obtain ⟨S, hS'⟩ : ∃ S, s.extract k ((k : Int) + (Z : Int)).toNat = S := ⟨_, rfl⟩
        rw [hS'] at hS r1 ⊢
        have hn2 : k + Z ≤ s.size := by omega
        have HR1 := Lib.hid r1
        clear hA r1 r2 r3 r4 hS' HOW HD
        go_wp2_with fail
        refine ⟨⟨k + Z, l ++ [⟨q.md, S⟩], some ⟨gg, 0, none⟩, cap, hn2, by go_num, by simp, ?_, ?_, by simp; omega, hB3⟩, by simp [intOf]; omega⟩
        · have e : (l ++ [(⟨q.md, S⟩ : SegV)]).length = l.length + 1 := by simp
          rw [e, List.flatMap_append]
          exact HR1.out
        · intro p hp
          rcases List.mem_append.1 hp with hp | hp
          · exact hsm p hp
          · rcases List.mem_cons.1 hp with rfl | hp
            · exact ⟨hmd, hS⟩
            · cases hp)
    · obtain rfl : k = s.size := by omega
      have hd : decide ((s.size : Int) < (s.size : Int)) = false := by simp
      go_wp2_with fail
      go_ret
      exact ⟨_, _, l, rfl, hown.more hgw, hsm, hlk, bt hb1 hB⟩
end Go.Proofs.Ytnajjofaijpciaa
/-
  Contracts: the length of the best segmentation, the size of a payload (some numbers in bounds).
  Conditions: messages of at most 1000 bytes.
-/
set_option linter.unusedVariables false
namespace Go.Proofs.Ytnajjofaijpciaa
open Go.RowKit Go.G8
set_option maxHeartbeats 1000000 in
theorem bestLength_any (s : ByteArray) (n : Nat) (w : World) (hs : s.size = n) (hn : n ≤ 1000) :
    Calls Try.prog 71 #[.string s] w (fun e w' => ∃ r code : Int, e = .returned (.tuple #[.int .i64 r, .int .i64 code]) ∧ (0 ≤ r ∧ r ≤ 100000000) ∧ (code = 0 → n ≤ 400) ∧ Below w.heap.size w w') := by
  subst hs
  by_cases hb : 400 < s.size
  · have hd : decide (400 < (s.size : Int)) = true := by rw [decide_eq_true_eq]; omega
    go_enter Try.func71, Try.ntmps71
    go_wp2_with fail
    go_ret2
    exact ⟨_, _, rfl, by omega, (fun e => by cases e), Below.refl _ _⟩
  · have hd : decide (400 < (s.size : Int)) = false := by rw [decide_eq_false_iff_not]; omega
    go_enter Try.func71, Try.ntmps71
    go_wp2_with fail
    refine (l10Table_any s s.size _ rfl hn).mono ?_
    rintro e w1 ⟨ta, tc, T, rfl, hTo, hT, hb1⟩
    obtain ⟨g, rfl, hg1, hg2⟩ := hTo.form (by omega)
    obtain ⟨q, hq, hq1, hq2⟩ := hT.bd (j := 0) (by omega) (by omega)
    obtain ⟨c0, c1, c2, c3⟩ := ownC_cells hTo hq
    have hl0 : (0 : Int) < (s.size : Int) + 1 := by omega
    have hl1 : (0 : Int) < ((s.size + 1 : Nat) : Int) := by omega
    rw [Nat.zero_mul] at c0 c1 c2 c3
    go_wp2_with fail
    go_ret2
    exact ⟨_, _, rfl, by omega, fun _ => by omega, hb1⟩
theorem fld_keep {W W' : World} {b : Nat} {u0 u1 u2 : Value} (hb : Below W.heap.size W W') (hlt : b < W.heap.size) (d0 : W.cell? ⟨b, 0, none⟩ = some u0) (d1 : W.cell? ⟨b, 1, none⟩ = some u1) (d2 : W.cell? ⟨b, 2, none⟩ = some u2) :
    b < W'.heap.size ∧ W'.cell? ⟨b, 0, none⟩ = some u0 ∧ W'.cell? ⟨b, 1, none⟩ = some u1 ∧ W'.cell? ⟨b, 2, none⟩ = some u2 := by
  obtain ⟨hcc, hff⟩ := bcell hb
  exact ⟨Nat.lt_of_lt_of_le hlt hb.size, (hcc _ 0 hlt).trans d0, (hcc _ 1 hlt).trans d1, (hcc _ 2 hlt).trans d2⟩
set_option maxHeartbeats 1000000 in
theorem payloadSize_any (p q y : Int) (s : ByteArray) (n : Nat) (w : World) (hs : s.size = n) (hn : n ≤ 1000) :
    Calls Try.prog 50 #[.agg #[.int .i64 p, .int .i64 q, .int .i64 y], .string s] w (fun e w' => ∃ r code : Int, e = .returned (.tuple #[.int .i64 r, .int .i64 code]) ∧ (0 ≤ r ∧ r ≤ 1500) ∧ Below w.heap.size w w') := by
  have HH := Lib.hid (start3 w (.int .i64 p) (.int .i64 q) (.int .i64 y) 36)
  have HIs := Lib.hid (fun w => isField_spec p q y w)
  have HBL := Lib.hid (fun w => bestLength_any s n w hs hn)
  clear hs
  cases hf : fieldB p q y with
  | false =>
    rw [hf] at HIs
    go_enter Try.func50, Try.ntmps50
    go_wp2_with fail
    obtain ⟨hw0, hlt, d0, d1, d2⟩ := HH.out
    refine (HIs.out _).mono ?_
    rintro e w1 ⟨rfl, hb1⟩
    have hB := bt hw0 hb1
    go_wp2_with fail
    go_ret2
    exact ⟨_, _, rfl, by omega, hB⟩
  | true =>
    rw [hf] at HIs
    have hbd := fsize_bd hf
    have HD := Lib.hid (wOf_bd hbd.1 hbd.2)
    have HWd := Lib.hid (fun w => l11Width_any p q y w hf)
    clear hbd hf
    go_enter Try.func50, Try.ntmps50
    go_wp2_with fail
    obtain ⟨hw0, hlt, d0, d1, d2⟩ := HH.out
    refine (HIs.out _).mono ?_
    rintro e w1 ⟨rfl, hb1⟩
    obtain ⟨hlt, d0, d1, d2⟩ := fld_keep hb1 hlt d0 d1 d2
    have hB := bt hw0 hb1
    clear hb1 hw0
    go_wp2_with fail
    refine (HBL.out _).mono ?_
    rintro e w2 ⟨r, code, rfl, hr, hc, hb2⟩
    obtain ⟨hlt, d0, d1, d2⟩ := fld_keep hb2 hlt d0 d1 d2
    replace hB := bt hB hb2
    clear hb2
    go_wp2_with fail
    refine (HWd.out _).mono ?_
    obtain ⟨wd, hwd⟩ : ∃ wd, wOf (fsize p q) = wd := ⟨_, rfl⟩
    have hw9 := HD.out
    rw [hwd] at hw9 ⊢
    obtain ⟨hw1, hw2, -⟩ := hw9
    rintro e w3 ⟨rfl, hb3⟩
    replace hB := bt hB hb3
    clear hb3 d0 d1 d2
    obtain ⟨D, hD⟩ : ∃ D, Int.tdiv (r + (wd : Int) - 1) (wd : Int) = D := ⟨_, rfl⟩
    have hD2 : 0 ≤ D ∧ D ≤ 100000009 := by
      rw [← hD, Int.tdiv_eq_ediv_of_nonneg (by omega)]
      exact ⟨Int.ediv_nonneg (by omega) (by omega), Int.le_trans (Int.ediv_le_self _ (by omega)) (by omega)⟩
    have e1 : IntKind.i64.wrap (r + (wd : Int)) = r + (wd : Int) := IntWalk.i64_in _ (by omega)
    have e2 : IntKind.i64.wrap (r + (wd : Int) - 1) = r + (wd : Int) - 1 := IntWalk.i64_in _ (by omega)
    have e3 : IntKind.i64.wrap D = D := IntWalk.i64_in _ (by omega)
    have e4 : ¬ ((wd : Int) = 0) := by omega
    go_wp2_with fail
    all_goals go_ret2
    all_goals refine ⟨_, ⟨_, rfl⟩, ?_, hB⟩
    all_goals clear hD HD HIs HBL HWd HH
    all_goals simp_all
    all_goals trace_state
    all_goals omega
end Go.Proofs.Ytnajjofaijpciaa
