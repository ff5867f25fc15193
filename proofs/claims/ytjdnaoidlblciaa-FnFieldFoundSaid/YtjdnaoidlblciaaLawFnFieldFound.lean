/-
  The law FnFieldFound holds at every input.
  Conditions: none.
-/
import Derived.Test.YtjdnaoidlblciaaFoundA
import Derived.Test.YtjdnaoidlblciaaDrawF
import Derived.Test.YtjdnaoidlblciaaLib
set_option linter.unusedVariables false
namespace Go.Proofs.Ytjdnaoidlblciaa
open Go.RowKit Go.G8
theorem two_more (w : World) (a b c d e f : Value) (T E : TypeId) :
    Below w.heap.size w ((w.alloc (.cells #[a, b, c] T)).alloc (.cells #[d, e, f] E)) ∧ w.heap.size + 1 < ((w.alloc (.cells #[a, b, c] T)).alloc (.cells #[d, e, f] E)).heap.size ∧
    ((w.alloc (.cells #[a, b, c] T)).alloc (.cells #[d, e, f] E)).cell? ⟨w.heap.size + 1, 0, none⟩ = some d ∧ ((w.alloc (.cells #[a, b, c] T)).alloc (.cells #[d, e, f] E)).cell? ⟨w.heap.size + 1, 1, none⟩ = some e ∧ ((w.alloc (.cells #[a, b, c] T)).alloc (.cells #[d, e, f] E)).cell? ⟨w.heap.size + 1, 2, none⟩ = some f ∧
    (∀ (b' i : Nat), b' < w.heap.size → ((w.alloc (.cells #[a, b, c] T)).alloc (.cells #[d, e, f] E)).cell? ⟨b', i, none⟩ = w.cell? ⟨b', i, none⟩) := by
  obtain ⟨h0, h1, h2, h3⟩ := new_fld (w.alloc (.cells #[a, b, c] T)) d e f E
  have es : (w.alloc (.cells #[a, b, c] T)).heap.size = w.heap.size + 1 := by simp
  rw [es] at h0 h1 h2 h3
  have hb : Below w.heap.size w ((w.alloc (.cells #[a, b, c] T)).alloc (.cells #[d, e, f] E)) := Below.alloc (Below.alloc (Below.refl w.heap.size w) (Nat.le_refl _) _) (by simp) _
  exact ⟨hb, h3, h0, h1, h2, fun b' i hb' => hb.cell (p := ⟨b', i, none⟩) hb'⟩
set_option maxHeartbeats 1000000 in
set_option maxRecDepth 20000 in
theorem law_FnFieldFound (a : Option Addr) (n c : Nat) (xs : List Int) (w : World) (h : Rd .u8 w a n xs) :
    Calls Try.prog 3 #[.slice a n c] w (Ret (.bool true) w) := by
  by_cases hbig : 4096 < n
  · go_enter Try.func3, Try.ntmps3
    go_wp2_with fail
    refine (big_any a n c _).mono ?_
    rw [decide_eq_true (by omega)]
    rintro e w1 ⟨rfl, rfl⟩
    go_wp2_with fail
    go_ret
    exact ⟨rfl, Below.refl _ _⟩
  · have hn : n ≤ 4096 := by omega
    go_enter Try.func3, Try.ntmps3
    go_wp2_with fail
    refine (big_any a n c _).mono ?_
    rw [decide_eq_false (by omega)]
    rintro e w1 ⟨rfl, rfl⟩
    go_wp2_with fail
    refine (drawFieldOf_any a n c xs _ h hn).mono ?_
    rintro e w1 ⟨size, rfl, hsz, hb1⟩
    clear hbig h
    have HI := Lib.hid (fun w => fieldOf_impl size w hsz)
    have HS := Lib.hid (fun w => fieldOf_spec size w hsz)
    rcases fieldOf_res size with hr | ⟨p, q, y, hr, hF⟩
    · rw [hr] at HI HS
      clear hr
      go_wp2_with fail
      refine (HI.out _).mono ?_
      rintro e w2 ⟨rfl, hb2⟩
      have hB2 := bt hb1 hb2
      clear hb1 hb2
      have HN := Lib.hid (new_fld w2 (.int .i64 0) (.int .i64 0) (.int .i64 0) 26)
      go_wp2_with fail
      refine (HS.out _).mono ?_
      rintro e w3 ⟨rfl, hb3⟩
      obtain ⟨d0, d1, d2, d3⟩ := HN.out
      obtain ⟨g0, g1, g2⟩ := cell3 hb3 d3 d0 d1 d2
      have hB3 := bt hB2 (bt (Below.alloc (Below.refl w2.heap.size w2) (Nat.le_refl _) _) hb3)
      have hlt3 := Nat.lt_of_lt_of_le d3 hb3.size
      clear d0 d1 d2 d3 hb3 HN hB2
      have HB3 := Lib.hid hB3
      clear hB3
      go_wp2_with fail
      have h0 : sizeR 0 0 0 = 0 := sizeR_no (fieldB_no2 (by decide) (by decide))
      refine (fieldSize_impl 0 0 0 _).mono ?_
      rw [h0]
      rintro e w4 ⟨rfl, hb4⟩
      have hB4 := bt (bt HB3.out (Below.alloc (Below.refl w3.heap.size w3) (Nat.le_refl _) _)) hb4
      go_wp2_with fail
      go_ret
      exact ⟨rfl, hB4⟩
    · have HF := Lib.hid hF
      rw [hr] at HI HS
      clear hr hF
      go_wp2_with fail
      refine (HI.out _).mono ?_
      rintro e w2 ⟨rfl, hb2⟩
      have hB2 := bt hb1 hb2
      clear hb1 hb2
      have HN := Lib.hid (new_fld w2 (.int .i64 p) (.int .i64 q) (.int .i64 y) 26)
      go_wp2_with fail
      refine (HS.out _).mono ?_
      rintro e w3 ⟨rfl, hb3⟩
      obtain ⟨d0, d1, d2, d3⟩ := HN.out
      obtain ⟨g0, g1, g2⟩ := cell3 hb3 d3 d0 d1 d2
      have hB3 := bt hB2 (bt (Below.alloc (Below.refl w2.heap.size w2) (Nat.le_refl _) _) hb3)
      have hlt3 := Nat.lt_of_lt_of_le d3 hb3.size
      clear d0 d1 d2 d3 hb3 HN hB2
      have HB3 := Lib.hid hB3
      obtain ⟨⟨p1, p2⟩, ⟨q1, q2⟩, ⟨y1, y2⟩⟩ := HF.out.bd
      clear hB3
      have HV := Lib.hid (two_more w3 (.int .i64 p) (.int .i64 q) (.int .i64 y) (.int .i64 p) (.int .i64 q) (.int .i64 (y - 1)) 26 26)
      have HG := Lib.hid (show _ ∧ _ ∧ _ ∧ _ from ⟨g0, g1, g2, hlt3⟩)
      have hfs : sizeR p q y = size := (sizeR_yes HF.out.ok).trans HF.out.size
      have HFS := Lib.hid hfs
      have hszb : (size == size) = true := by simp
      clear hfs
      go_wp2_with fail
      refine (isField_impl p q y _).mono ?_
      rw [HF.out.ok]
      rintro e w4 ⟨rfl, hb4⟩
      obtain ⟨v1, v2, v3, v4, v5, v6⟩ := HV.out
      obtain ⟨s0, s1, s2⟩ := cell3 hb4 v2 v3 v4 v5
      obtain ⟨f0, f1, f2⟩ := cell3 hb4 (Nat.lt_of_lt_of_le HG.out.2.2.2 v1.size) ((v6 _ 0 HG.out.2.2.2).trans HG.out.1) ((v6 _ 1 HG.out.2.2.2).trans HG.out.2.1) ((v6 _ 2 HG.out.2.2.2).trans HG.out.2.2.1)
      have hB4 := bt (bt HB3.out v1) hb4
      have l1 := Nat.lt_of_lt_of_le v2 hb4.size
      have l2 := Nat.lt_of_lt_of_le (Nat.lt_of_lt_of_le HG.out.2.2.2 v1.size) hb4.size
      clear v1 v2 v3 v4 v5 v6 hb4 g0 g1 g2
      go_wp2_with fail
      refine (fieldSize_impl p q y _).mono ?_
      rw [HFS.out]
      rintro e w5 ⟨rfl, hb5⟩
      obtain ⟨t0, t1, t2⟩ := cell3 hb5 l1 s0 s1 s2
      have hB5 := bt hB4 hb5
      clear s0 s1 s2 f0 f1 f2 l1 l2 hb5 hB4
      go_wp2_with fail
      refine (isField_impl p q (y - 1) _).mono ?_
      rw [HF.out.less]
      rintro e w6 ⟨rfl, hb6⟩
      have hB6 := bt hB5 hb6
      go_wp2_with fail
      go_ret
      exact ⟨rfl, hB6⟩
end Go.Proofs.Ytjdnaoidlblciaa
