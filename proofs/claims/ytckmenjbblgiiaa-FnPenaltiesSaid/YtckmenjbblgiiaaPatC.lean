/-
  Contracts: all patterns, by the program.
  Conditions: none.
-/
import Derived.Test.YtckmenjbblgiiaaPatB
import Derived.Laws.EntriesVeiled
import Derived.Test.YtckmenjbblgiiaaDrawS
set_option linter.unusedVariables false
namespace Go.Proofs.Ytckmenjbblgiiaa
open Go.RowKit Go.G8
def extV (N O X : Nat) : Value := .func (.func 93) #[] #[.pointer (some ⟨N, 0, none⟩), .pointer (some ⟨O, 0, none⟩), .pointer (some ⟨X, 0, none⟩)]
def flat (rows : List (List Int)) : List Value := rows.flatMap (fun r => ints .i64 r)
/-- What the closure reaches: the pattern so far (block N), the list of patterns (its slice in block O), itself (block X). -/
def St (D N O X : Nat) (w : World) (cur : List Int) (rows : List (List Int)) : Prop :=
  D ≤ N ∧ D ≤ O ∧ D ≤ X ∧ N ≠ O ∧ N ≠ X ∧ O ≠ X ∧ N < w.heap.size ∧ O < w.heap.size ∧ X < w.heap.size ∧ cur.length = 8 ∧ (∀ j x, cur[j]? = some x → w.cell? ⟨N, j, none⟩ = some (.int .i64 x)) ∧ (∀ j, w.frozen? ⟨N, j, none⟩ = false) ∧ (∀ j, w.frozen? ⟨O, j, none⟩ = false) ∧ w.cell? ⟨X, 0, none⟩ = some (extV N O X) ∧
  ∃ (a : Option Addr) (c : Nat), w.cell? ⟨O, 0, none⟩ = some (.slice a rows.length c) ∧ OwV 83 8 D w a rows.length c (flat rows) ∧ ∀ g, blk a = some g → g ≠ N ∧ g ≠ O ∧ g ≠ X
theorem st_set {D N O X p : Nat} {w : World} {cur : List Int} {rows : List (List Int)} (h : St D N O X w cur rows) (x : Int) : St D N O X (w.setCell ⟨N, p, none⟩ (.int .i64 x)) (cur.set p x) rows ∧ Below D w (w.setCell ⟨N, p, none⟩ (.int .i64 x)) := by
  obtain ⟨h1, h2, h3, h4, h5, h6, h7, h8, h9, h10, h11, h12, h13, h14, a, c, h15, h16, h17⟩ := h
  have hg : w.grownBy (w.setCell ⟨N, p, none⟩ (.int .i64 x)) (some N) := ⟨rfl, rfl, rfl, by simp, fun q hq hne => Below.heap_setCell _ _ _ q (fun e => hne (by rw [e]))⟩
  have kO := fun j => gcell hg h8 (fun e => h4 e.symm) j
  have kX := fun j => gcell hg h9 (fun e => h5 e.symm) j
  refine ⟨⟨h1, h2, h3, h4, h5, h6, by simpa using h7, by simpa using h8, by simpa using h9, by simpa using h10, fun j y hj => ?_, fun j => (frozen_set w N p j _ (h12 j)), fun j => (kO j).2.trans (h13 j), (kX 0).1.trans h14, a, c, (kO 0).1.trans h15, h16.sep (a' := some ⟨N, 0, none⟩) hg (fun g g1 g2 => ?_), h17⟩, (Below.refl D w).setCell h1 _⟩
  · by_cases hjp : j = p
    · subst hjp
      have hl : j < cur.length := by
        have := (List.getElem?_eq_some_iff.1 hj).1
        simpa using this
      have e0 := h11 j cur[j] (List.getElem?_eq_getElem hl)
      rw [List.getElem?_set_self hl] at hj
      injection hj with hj
      subst hj
      exact World.cell?_setCell_same _ _ _ e0
    · rw [List.getElem?_set_ne (fun e => hjp e.symm)] at hj
      rw [World.cell?_setCell_other _ _ _ _ (by intro e; injection e with _ e; exact hjp e.symm)]
      exact h11 j y hj
  · have := (h17 g g1).1
    simp [blk] at g2
    omega
theorem flat_snoc (rows : List (List Int)) (r : List Int) : flat (rows ++ [r]) = flat rows ++ ints .i64 r := by simp [flat]
/-- The pattern so far is appended. -/
theorem st_push {D N O X c' : Nat} {w w1 w2 : World} {cur : List Int} {rows : List (List Int)} {a a' : Option Addr} {c : Nat} (h : St D N O X w cur rows) (hD : D ≤ w.heap.size) (hO : w.cell? ⟨O, 0, none⟩ = some (.slice a rows.length c)) (hb : Below w.heap.size w w1)
    (hg : w1.grownBy w2 (blk a)) (hn : OwV 83 8 D w2 a' (rows.length + 1) c' (flat rows ++ ints .i64 cur)) (hbl : blk a' = blk a ∨ ∃ q, blk a' = some q ∧ w.heap.size ≤ q) :
    St D N O X (w2.setCell ⟨O, 0, none⟩ (.slice a' (rows.length + 1) c')) cur (rows ++ [cur]) ∧ Below D w (w2.setCell ⟨O, 0, none⟩ (.slice a' (rows.length + 1) c')) := by
  obtain ⟨h1, h2, h3, h4, h5, h6, h7, h8, h9, h10, h11, h12, h13, h14, a0, c0, h15, h16, h17⟩ := h
  rw [hO] at h15
  injection h15 with h15
  injection h15 with e1 e2 e3
  subst e1 e3
  have hs1 := hb.size
  have hs2 := hg.size
  have kk : ∀ b, b < w.heap.size → (∀ g, blk a = some g → g ≠ b) → ∀ j, w2.cell? ⟨b, j, none⟩ = w.cell? ⟨b, j, none⟩ ∧ w2.frozen? ⟨b, j, none⟩ = w.frozen? ⟨b, j, none⟩ := by
    intro b hlt hne j
    have e := hg.block b (by omega) (fun e => (hne b e.symm) rfl)
    obtain ⟨c1, c2⟩ := bcell hb
    exact ⟨(World.cell?_of_block (a := ⟨b, j, none⟩) e).trans (c1 b j hlt), (World.frozen?_of_block (a := ⟨b, j, none⟩) e).trans (c2 b j hlt)⟩
  have kN := kk N h7 (fun g g1 => (h17 g g1).1)
  have kO := kk O h8 (fun g g1 => (h17 g g1).2.1)
  have kX := kk X h9 (fun g g1 => (h17 g g1).2.2)
  have hg2 : w2.grownBy (w2.setCell ⟨O, 0, none⟩ (.slice a' (rows.length + 1) c')) (some O) := ⟨rfl, rfl, rfl, by simp, fun q hq hne => Below.heap_setCell _ _ _ q (fun e => hne (by rw [e]))⟩
  have lN := fun j => gcell hg2 (show N < w2.heap.size by omega) h4 j
  have lX := fun j => gcell hg2 (show X < w2.heap.size by omega) (fun e => h6 e.symm) j
  have hnew : ∀ g, blk a' = some g → g ≠ N ∧ g ≠ O ∧ g ≠ X := by
    intro g hg'
    rcases hbl with hbl | ⟨q, hq, hle⟩
    · exact h17 g (by rw [← hbl]; exact hg')
    · rw [hq] at hg'
      injection hg' with hg'
      subst hg'
      omega
  refine ⟨⟨h1, h2, h3, h4, h5, h6, by simp; omega, by simp; omega, by simp; omega, h10, fun j x hj => ((lN j).1.trans (kN j).1).trans (h11 j x hj), fun j => ((lN j).2.trans (kN j).2).trans (h12 j), fun j => frozen_set w2 O 0 j _ ((kO j).2.trans (h13 j)), ((lX 0).1.trans (kX 0).1).trans h14, a', c', ?_, ?_, hnew⟩, ?_⟩
  · rw [List.length_append, List.length_singleton]
    exact World.cell?_setCell_same _ _ _ ((kO 0).1.trans hO)
  · rw [List.length_append, List.length_singleton, flat_snoc]
    exact hn.sep (a' := some ⟨O, 0, none⟩) hg2 (fun g g1 g2 => by
      have := (hnew g g1).2.1
      simp [blk] at g2
      omega)
  · exact ((hb.mono hD).grown hg (by omega) (fun g e => (h16.lt g e).1)).grown hg2 (by omega) (fun g e => by injection e with e; omega)
theorem st_out {D N O X : Nat} {w w1 w2 : World} {cur : List Int} {rows : List (List Int)} {a : Option Addr} {c : Nat} (h : St D N O X w cur rows) (hO : w.cell? ⟨O, 0, none⟩ = some (.slice a rows.length c)) (hb : Below w.heap.size w w1)
    (hg : w1.grownBy w2 (blk a)) : w2.cell? ⟨O, 0, none⟩ = some (.slice a rows.length c) ∧ w2.frozen? ⟨O, 0, none⟩ = false := by
  obtain ⟨h1, h2, h3, h4, h5, h6, h7, h8, h9, h10, h11, h12, h13, h14, a0, c0, h15, h16, h17⟩ := h
  rw [hO] at h15
  injection h15 with h15
  injection h15 with e1 e2 e3
  subst e1 e3
  have hs1 := hb.size
  have e := hg.block O (by omega) (fun e => ((h17 O e.symm).2.1) rfl)
  obtain ⟨c1, c2⟩ := bcell hb
  exact ⟨((World.cell?_of_block (a := ⟨O, 0, none⟩) e).trans (c1 O 0 h8)).trans hO, ((World.frozen?_of_block (a := ⟨O, 0, none⟩) e).trans (c2 O 0 h8)).trans (h13 0)⟩
theorem st_below {D N O X : Nat} {w w' : World} {cur : List Int} {rows : List (List Int)} (h : St D N O X w cur rows) (hb : Below w.heap.size w w') : St D N O X w' cur rows := by
  obtain ⟨h1, h2, h3, h4, h5, h6, h7, h8, h9, h10, h11, h12, h13, h14, a, c, h15, h16, h17⟩ := h
  obtain ⟨c1, c2⟩ := bcell hb
  have hs := hb.size
  exact ⟨h1, h2, h3, h4, h5, h6, by omega, by omega, by omega, h10, fun j x hj => (c1 N j h7).trans (h11 j x hj), fun j => (c2 N j h7).trans (h12 j), fun j => (c2 O j h8).trans (h13 j), (c1 X 0 h9).trans h14, a, c, (c1 O 0 h8).trans h15, h16.keep hb, h17⟩
/-- What the closure does. -/
def RetExt (D N O X p : Nat) (cur : List Int) (rows : List (List Int)) (w : World) (e : Ending) (w' : World) : Prop :=
  e = .returned (.tuple #[]) ∧ ∃ cur', cur'.take p = cur.take p ∧ St D N O X w' cur' rows ∧ Below D w w'
theorem list8 (l : List Int) (h : l.length = 8) : ∃ a b c d e f g i, l = [a, b, c, d, e, f, g, i] := by
  match l, h with
  | [a, b, c, d, e, f, g, i], _ => exact ⟨a, b, c, d, e, f, g, i, rfl⟩
theorem info_widths : (Try.prog.info? 83).map (fun i => (i.zero, i.size, i.bytes)) = some (some (.agg #[.int .i64 0, .int .i64 0, .int .i64 0, .int .i64 0, .int .i64 0, .int .i64 0, .int .i64 0, .int .i64 0]), 8, 64) := by kernel_rfl
set_option maxHeartbeats 1000000 in
set_option maxRecDepth 20000 in
theorem ext_last (D N O X : Nat) (l : Int) (w : World) (cur : List Int) (rows : List (List Int)) (h : St D N O X w cur rows) (hr : rows.length ≤ 1000000) (hD : D ≤ w.heap.size) :
    Calls Try.prog 93 #[.int .i64 7, .int .i64 l, .pointer (some ⟨N, 0, none⟩), .pointer (some ⟨O, 0, none⟩), .pointer (some ⟨X, 0, none⟩)] w (RetExt D N O X 7 cur (rows ++ [cur.take 7 ++ [l]]) w) := by
  obtain ⟨i1, hj, hy0, hy1, hy2⟩ := info_parts info_widths
  obtain ⟨hst, hbe⟩ := st_set (p := 7) h l
  have H := Lib.hid h
  obtain ⟨h1, h2, h3, h4, h5, h6, h7, h8, h9, h10, h11, h12, h13, h14, a, c, h15, h16, h17⟩ := h
  obtain ⟨x0, x1, x2, x3, x4, x5, x6, x7, rfl⟩ := list8 cur h10
  have c7 := h11 7 x7 rfl
  have z7 := h12 7
  have HS := Lib.hid hst
  obtain ⟨g1, g2, g3, g4, g5, g6, g7, g8, g9, g10, g11, g12, g13, g14, a', c', g15, g16, g17⟩ := hst
  have d0 := g11 0 x0 rfl
  have d1 := g11 1 x1 rfl
  have d2 := g11 2 x2 rfl
  have d3 := g11 3 x3 rfl
  have d4 := g11 4 x4 rfl
  have d5 := g11 5 x5 rfl
  have d6 := g11 6 x6 rfl
  have d7 := g11 7 l rfl
  have zO := g13 0
  clear h1 h2 h3 h4 h5 h6 h7 h8 h9 h10 h11 h12 h13 h14 h15 h16 h17 g11 g12 g13 g14 g10 g9
  have hDW : D ≤ (w.setCell ⟨N, 7, none⟩ (.int .i64 l)).heap.size := by simpa using hD
  have hal := Below.alloc (Below.refl (w.setCell ⟨N, 7, none⟩ (.int .i64 l)).heap.size (w.setCell ⟨N, 7, none⟩ (.int .i64 l))) (Nat.le_refl _) (.cells #[.int .i64 x0, .int .i64 x1, .int .i64 x2, .int .i64 x3, .int .i64 x4, .int .i64 x5, .int .i64 x6, .int .i64 l] 83)
  go_enter Try.func93, Try.ntmps93
  go_wp2_with (at_builtin; refine wpList_pushF _ rfl _ _ 84 rfl D 83 _ i1 _ 8 64 Try.underlying84 hj hy0 hy1 hy2 rfl (by decide) (by omega) a' rows.length c' (flat rows) #[.int .i64 x0, .int .i64 x1, .int .i64 x2, .int .i64 x3, .int .i64 x4, .int .i64 x5, .int .i64 x6, .int .i64 l] 1 rfl g16 (by first | rfl | (simp; done) | (simp; rfl)) rfl (by intro u hu; simp at hu; rcases hu with rfl | rfl | rfl | rfl | rfl | rfl | rfl | rfl <;> rfl) (by omega) (by omega) hDW ?_; intro a2 c2 w2 hown2 hg2 hbl2; obtain ⟨q1, q2⟩ := st_out HS.out g15 hal hg2)
  obtain ⟨r1, r2⟩ := st_push (a' := a2) (c' := c2) HS.out hDW g15 hal hg2 hown2 (by
    rcases hbl2 with h | h
    · exact .inl h
    · exact .inr ⟨_, h, by omega⟩)
  exact bodyPost_ret (v := .tuple #[]) (by simp [results, Try.results93, go_sem]) rfl ⟨rfl, [x0, x1, x2, x3, x4, x5, x6, x7].set 7 l, rfl, r1, hbe.trans r2⟩
theorem set_take {l : List Int} {p : Nat} (h : p < l.length) (x : Int) : (l.set p x).take (p + 1) = l.take p ++ [x] := by
  rw [List.take_succ_eq_append_getElem (by simpa using h)]
  simp [List.take_set_of_le]
theorem patsTo_len (k s : Nat) (hk : k + 1 ≤ 8) (hs : s ≤ 11) (f : Nat) : (patsTo k s f).length ≤ 1000 * f := by
  induction f with
  | zero => simp [patsTo]
  | succ f ih =>
    have := pats_len (k + 1) (s - (f + 1)) hk (by omega)
    rw [patsTo_succ, List.length_append, List.length_map]
    omega
set_option maxHeartbeats 1000000 in
set_option maxRecDepth 20000 in
theorem ext_step (D N O X p k l : Nat) (hpk : p + k = 6) (hl : l ≤ 11) (hkl : k + 2 ≤ l) (w : World) (cur : List Int) (rows : List (List Int)) (h : St D N O X w cur rows) (hr : rows.length ≤ 100000 * (p + 1)) (hD : D ≤ w.heap.size)
    (IH : ∀ (t : Nat) (W : World) (cur : List Int) (rows : List (List Int)), t ≤ 11 → k + 1 ≤ t → St D N O X W cur rows → rows.length ≤ 100000 * (p + 2) → D ≤ W.heap.size →
      Calls Try.prog 93 #[.int .i64 ((p : Int) + 1), .int .i64 t, .pointer (some ⟨N, 0, none⟩), .pointer (some ⟨O, 0, none⟩), .pointer (some ⟨X, 0, none⟩)] W (RetExt D N O X (p + 1) cur (rows ++ (pats (k + 1) t).map (cur.take (p + 1) ++ ·)) W)) :
    Calls Try.prog 93 #[.int .i64 p, .int .i64 l, .pointer (some ⟨N, 0, none⟩), .pointer (some ⟨O, 0, none⟩), .pointer (some ⟨X, 0, none⟩)] w (RetExt D N O X p cur (rows ++ (pats (k + 2) l).map (cur.take p ++ ·)) w) := by
  obtain ⟨F, hF1, hF2⟩ : ∃ F, l ≤ F + (k + 1) ∧ F + (k + 1) ≤ l := ⟨l - (k + 1), by omega, by omega⟩
  have hres := Lib.hid (show pats (k + 2) l = patsTo k l F by rw [pats_is]; congr 1; omega)
  have d1 : ((p : Int) == 7) = false := by rw [beq_eq_false_iff_ne]; omega
  go_enter Try.func93, Try.ntmps93
  go_wp2_with fail
  go_loopw [7] (fun wi wr => ∃ (f : Nat) (cur' : List Int), f ≤ F ∧ wi = .int .i64 ((f : Int) + 1) ∧ Hid (cur'.take p = cur.take p) ∧ St D N O X wr cur' (rows ++ (patsTo k l f).map (cur.take p ++ ·)) ∧ Below D w wr) (fun wi _ => F + 1 - (intOf wi).toNat)
  case atStart => exact ⟨0, cur, by omega, by go_num, rfl, by simpa [patsTo] using h, Below.refl _ _⟩
  case round =>
    clear h
    obtain ⟨f, cur', hf, rfl, hcur, hS, hB⟩ := hrel
    have hDr := Nat.le_trans hD hB.size
    have hlen := hS.2.2.2.2.2.2.2.2.2.1
    by_cases hlt : f < F
    · obtain ⟨hS2, hB2⟩ := st_set (p := p) hS ((f : Int) + 1)
      have hp8 : p < cur'.length := by omega
      have cN := hS.2.2.2.2.2.2.2.2.2.2.1 p cur'[p] (List.getElem?_eq_getElem hp8)
      have zN := hS.2.2.2.2.2.2.2.2.2.2.2.1 p
      have cX := hS2.2.2.2.2.2.2.2.2.2.2.2.2.2.1
      have hDW : D ≤ (wr.setCell ⟨N, p, none⟩ (.int .i64 ((f : Int) + 1))).heap.size := by simpa using hDr
      have hlp := patsTo_len k l (by omega) hl f
      have HIH := Lib.hid (IH (l - (f + 1)) (wr.setCell ⟨N, p, none⟩ (.int .i64 ((f : Int) + 1))) (cur'.set p ((f : Int) + 1)) _ (by omega) (by omega) hS2 (by simp; omega) hDW)
      have b1 : (0 : Int) ≤ (p : Int) := by omega
      have b2 : (p : Int) < 8 := by omega
      have htk := Lib.hid (set_take hp8 ((f : Int) + 1))
      have hBW := hB.trans hB2
      have hsucc := Lib.hid (patsTo_succ k l f)
      have HS := Lib.hid hS
      unfold extV at cX
      clear hS hS2 IH hB2
      go_wp2_with fail
      rw [show (l : Int) - ((f : Int) + 1) = ((l - (f + 1) : Nat) : Int) by omega]
      refine HIH.out.mono ?_
      rintro e w3 ⟨rfl, cur3, hc3, hS3, hB3⟩
      have hB4 := hBW.trans hB3
      have hrow := Lib.hid (show (rows ++ (patsTo k l f).map (cur.take p ++ ·)) ++ (pats (k + 1) (l - (f + 1))).map ((cur'.set p ((f : Int) + 1)).take (p + 1) ++ ·) = rows ++ (patsTo k l (f + 1)).map (cur.take p ++ ·) by
        rw [htk.out, hcur.out, hsucc.out, List.map_append, List.map_map, List.append_assoc]
        congr 2
        refine List.map_congr_left (fun r _ => ?_)
        simp)
      rw [hrow.out] at hS3
      have hc4 := Lib.hid (show cur3.take p = cur.take p by
        have e1 : (cur3.take (p + 1)).take p = cur3.take p := by rw [List.take_take]; congr 1; omega
        rw [← e1, hc3, htk.out, List.take_append_of_le_length (by simp; omega), List.take_take, Nat.min_self, hcur.out])
      clear hc3 hB3 hBW HIH
      go_wp2_with fail
      go_roundw
      case rel => exact ⟨f + 1, cur3, by omega, by go_num, hc4, hS3, hB4⟩
      case measure => simp [intOf]; omega
    · obtain rfl : f = F := by omega
      go_wp2_with fail
      exact bodyPost_ret (v := .tuple #[]) (by simp [results, Try.results93, go_sem]) rfl ⟨rfl, _, hcur.out, by rw [hres.out]; exact hS, hB⟩
theorem ext_any : ∀ (k p l : Nat) (w : World) (D N O X : Nat) (cur : List Int) (rows : List (List Int)), p + k = 7 → l ≤ 11 → k + 1 ≤ l → St D N O X w cur rows → rows.length ≤ 100000 * (p + 1) → D ≤ w.heap.size →
    Calls Try.prog 93 #[.int .i64 p, .int .i64 l, .pointer (some ⟨N, 0, none⟩), .pointer (some ⟨O, 0, none⟩), .pointer (some ⟨X, 0, none⟩)] w (RetExt D N O X p cur (rows ++ (pats (k + 1) l).map (cur.take p ++ ·)) w) := by
  intro k
  induction k with
  | zero =>
    intro p l w D N O X cur rows hp hl hk h hr hD
    obtain rfl : p = 7 := by omega
    exact ext_last D N O X l w cur rows h (by omega) hD
  | succ k ih =>
    intro p l w D N O X cur rows hp hl hk h hr hD
    exact ext_step D N O X p k l (by omega) hl (by omega) w cur rows h hr hD (fun t W cur rows h1 h2 h3 h4 h5 => by
      have := ih (p + 1) t W D N O X cur rows (by omega) h1 h2 h3 h4 h5
      simpa using this)
theorem block3 (w : World) (A B C : Obj) : (((w.alloc A).alloc B).alloc C).heap[w.heap.size]? = some A ∧ (((w.alloc A).alloc B).alloc C).heap[w.heap.size + 1]? = some B ∧ (((w.alloc A).alloc B).alloc C).heap[w.heap.size + 1 + 1]? = some C := by
  have e : (((w.alloc A).alloc B).alloc C).heap = ((w.heap.push A).push B).push C := rfl
  rw [e]
  refine ⟨?_, ?_, ?_⟩
  · rw [Array.getElem?_push_lt (by simp; omega), Array.getElem_push_lt (by simp), Array.getElem_push_eq]
  · rw [Array.getElem?_push_lt (by simp), ← Array.getElem?_eq_getElem, show w.heap.size + 1 = (w.heap.push A).size by simp, Array.getElem?_push_size]
  · rw [show w.heap.size + 1 + 1 = ((w.heap.push A).push B).size by simp, Array.getElem?_push_size]
theorem st_start {w w1 : World} (hg : w.grownBy w1 none) (ho : w1.ownsRow w.heap.size 83 8 (.slice (some ⟨w.heap.size, 0, none⟩) 0 120) 0 []) (V : World)
    (hV : V = ((w1.alloc (.cells #[.slice (some ⟨w.heap.size, 0, none⟩) 0 120] 84)).alloc (.cells #[.int .i64 0, .int .i64 0, .int .i64 0, .int .i64 0, .int .i64 0, .int .i64 0, .int .i64 0, .int .i64 0] 83)).alloc (.cells #[extV (w1.heap.size + 1) w1.heap.size (w1.heap.size + 1 + 1)] 140)) :
    St w.heap.size (w1.heap.size + 1) w1.heap.size (w1.heap.size + 1 + 1) V (List.replicate 8 0) [] ∧ Below w.heap.size w V ∧ w.heap.size ≤ V.heap.size := by
  have hs := hg.size
  obtain ⟨b1, b2, b3⟩ := block3 w1 (.cells #[.slice (some ⟨w.heap.size, 0, none⟩) 0 120] 84) (.cells #[.int .i64 0, .int .i64 0, .int .i64 0, .int .i64 0, .int .i64 0, .int .i64 0, .int .i64 0, .int .i64 0] 83) (.cells #[extV (w1.heap.size + 1) w1.heap.size (w1.heap.size + 1 + 1)] 140)
  have hO := OwV.alloc (OwV.alloc (OwV.alloc (show OwV 83 8 w.heap.size w1 (some ⟨w.heap.size, 0, none⟩) 0 120 [] from ho) (.cells #[.slice (some ⟨w.heap.size, 0, none⟩) 0 120] 84)) (.cells #[.int .i64 0, .int .i64 0, .int .i64 0, .int .i64 0, .int .i64 0, .int .i64 0, .int .i64 0, .int .i64 0] 83)) (.cells #[extV (w1.heap.size + 1) w1.heap.size (w1.heap.size + 1 + 1)] 140)
  have hlt := (OwV.lt (show OwV 83 8 w.heap.size w1 (some ⟨w.heap.size, 0, none⟩) 0 120 [] from ho) w.heap.size rfl).2
  have hB : Below w.heap.size w w1 := (Below.refl _ _).grown hg (Nat.le_refl _) (fun k e => by cases e)
  have hB3 := ((hB.alloc hs (.cells #[.slice (some ⟨w.heap.size, 0, none⟩) 0 120] 84)).alloc (by simp; omega) (.cells #[.int .i64 0, .int .i64 0, .int .i64 0, .int .i64 0, .int .i64 0, .int .i64 0, .int .i64 0, .int .i64 0] 83)).alloc (by simp; omega) (.cells #[extV (w1.heap.size + 1) w1.heap.size (w1.heap.size + 1 + 1)] 140)
  rw [← hV] at b1 b2 b3 hO hB3
  have hz : V.heap.size = w1.heap.size + 1 + 1 + 1 := by rw [hV]; simp
  refine ⟨⟨by omega, by omega, by omega, by omega, by omega, by omega, by omega, by omega, by omega, rfl, fun j x hj => ?_, fun j => frozen_of_row _ _ _ _ _ b2, fun j => frozen_of_row _ _ _ _ _ b1, ?_, some ⟨w.heap.size, 0, none⟩, 120, ?_, hO, fun g e => ?_⟩, hB3, hB3.size⟩
  · rw [cell_of_row _ _ _ _ _ (0, 0) b2]
    have hj8 : j < 8 := by
      have := (List.getElem?_eq_some_iff.1 hj).1
      simpa using this
    rw [List.getElem?_replicate, if_pos hj8] at hj
    injection hj with hj
    subst hj
    match j, hj8 with
    | 0, _ => rfl
    | 1, _ => rfl
    | 2, _ => rfl
    | 3, _ => rfl
    | 4, _ => rfl
    | 5, _ => rfl
    | 6, _ => rfl
    | 7, _ => rfl
  · rw [cell_of_row _ _ _ _ _ (0, 0) b3]; rfl
  · rw [cell_of_row _ _ _ _ _ (0, 0) b1]; rfl
  · simp [blk] at e
    omega
def RetAll (w : World) (e : Ending) (w' : World) : Prop :=
  ∃ (a : Option Addr) (c : Nat), e = .returned (.slice a 120 c) ∧ OwV 83 8 w.heap.size w' a 120 c (flat allP) ∧ Below w.heap.size w w'
set_option maxHeartbeats 1000000 in
set_option maxRecDepth 20000 in
theorem allPatterns_any (w : World) : Calls Try.prog 58 #[] w (RetAll w) := by
  obtain ⟨i1, hj, hy0, hy1, hy2⟩ := info_parts info_widths
  go_enter Try.func58, Try.ntmps58
  go_wp2_with (at_make; refine wpList_make_own _ rfl _ _ 84 rfl w.heap.size 83 i1 _ 8 Try.underlying84 hj hy0 hy1 .i64 .i64 _ 120 rfl rfl rfl (by rw [hy2]; omega) (by unfold maxLen; omega) (Nat.le_refl _) ?_; intro w1 hown1 hg1)
  obtain ⟨hS, hB, hD⟩ := st_start hg1 hown1 _ rfl
  have HE := Lib.hid (ext_any 7 0 11 _ w.heap.size _ _ _ _ _ (by omega) (by omega) (by omega) hS (by simp) hD)
  clear hg1 hown1 hS
  refine HE.out.mono ?_
  rintro e w2 ⟨rfl, cur, -, hS, hB2⟩
  have hB3 := hB.trans hB2
  have hrow : ([] : List (List Int)) ++ (pats (7 + 1) 11).map (([] : List Int) ++ ·) = allP := by
    rw [List.nil_append, List.map_congr_left (g := fun r => r) (fun r _ => List.nil_append r), List.map_id']
    rfl
  rw [List.take_zero, hrow] at hS
  obtain ⟨h1, h2, h3, h4, h5, h6, h7, h8, h9, h10, h11, h12, h13, h14, a, c, h15, h16, h17⟩ := hS
  rw [allP_len] at h15 h16
  clear h1 h2 h3 h4 h5 h6 h7 h8 h9 h10 h11 h12 h13 h14 h17 hB HE hB2 hrow
  go_wp2_with fail
  go_ret
  exact ⟨a, c, rfl, h16, hB3⟩
end Go.Proofs.Ytckmenjbblgiiaa
