/-
  Contracts: the index of a pattern, by the program.
  Conditions: none.
-/
import Derived.Test.YtckmenjbblgiiaaPatI
import Derived.Test.YtckmenjbblgiiaaMapKey
set_option linter.unusedVariables false
namespace Go.Proofs.Ytckmenjbblgiiaa
open Go.RowKit Go.G8 Go.Maps
theorem laidOutW : laidOutB Try.prog = true := by kernel_rfl
theorem keyedW : Keyed Try.prog 83 := Keyed.of_law (deep_law_laid laidOutW (m := 3) (by omega) (of_decide_eq_true (by kernel_rfl)) (by kernel_rfl) (by kernel_rfl))
theorem keyW (x0 x1 x2 x3 x4 x5 x6 x7 : Int) (h : ∀ x ∈ [x0, x1, x2, x3, x4, x5, x6, x7], fits .i64 x) : ∃ l, keyOf Try.prog 83 (.agg #[.int .i64 x0, .int .i64 x1, .int .i64 x2, .int .i64 x3, .int .i64 x4, .int .i64 x5, .int .i64 x6, .int .i64 x7]) = some l :=
  key8 Try.underlying83 Try.underlying2 (by kernel_rfl) (by kernel_rfl) (by kernel_rfl) (of_decide_eq_true (by kernel_rfl)) x0 x1 x2 x3 x4 x5 x6 x7 h
/-- A pattern as a key. -/
def keyV (r : List Int) : Value := .agg (ints .i64 r).toArray
theorem keyV_inj {r q : List Int} (h : keyV r = keyV q) : r = q := by
  unfold keyV at h
  injection h with h
  have h2 : ints .i64 r = ints .i64 q := by injection h
  unfold ints at h2
  exact (List.map_inj_right (fun x y e => by injection e)).1 h2
def ents (j : Nat) : List (Value × Value) := (List.range j).map (fun i : Nat => (keyV (allP[i]?.getD []), Value.int .i64 (i : Int)))
theorem ents_succ {j : Nat} {r : List Int} (h : allP[j]? = some r) : ents (j + 1) = ents j ++ [(keyV r, .int .i64 (j : Int))] := by
  unfold ents
  rw [List.range_succ, List.map_append, List.map_singleton, h]
  rfl
theorem key_row {r : List Int} (h8 : r.length = 8) (h : ∀ x ∈ r, fits .i64 x) : ∃ l, keyOf Try.prog 83 (keyV r) = some l := by
  obtain ⟨x0, x1, x2, x3, x4, x5, x6, x7, rfl⟩ := list8 r h8
  exact keyW x0 x1 x2 x3 x4 x5 x6 x7 h
theorem row_fits {r : List Int} (h : r ∈ allP) : ∀ x ∈ r, fits .i64 x := fun x hx => by
  have := (allP_row r h).2 x hx
  show -9223372036854775808 ≤ x ∧ x ≤ 9223372036854775807
  omega
theorem ents_mem {j : Nat} (hj : j ≤ 120) {p : Value × Value} (hp : p ∈ ents j) : ∃ (i : Nat) (r : List Int), i < j ∧ allP[i]? = some r ∧ p = (keyV r, .int .i64 (i : Int)) := by
  unfold ents at hp
  obtain ⟨i, hi, rfl⟩ := List.mem_map.1 hp
  have hi' : i < j := by simpa using hi
  have hl : i < allP.length := by rw [allP_len]; omega
  exact ⟨i, allP[i], hi', List.getElem?_eq_getElem hl, by rw [List.getElem?_eq_getElem hl]; rfl⟩
theorem ents_key {j : Nat} (hj : j ≤ 120) : ∀ p ∈ ents j, ∃ l, keyOf Try.prog 83 p.1 = some l := by
  intro p hp
  obtain ⟨i, r, -, hr, rfl⟩ := ents_mem hj hp
  have hm := List.mem_of_getElem? hr
  exact key_row (allP_row r hm).1 (row_fits hm)
theorem allP_nodup : allP.Nodup := by decide +kernel
theorem allP_inj {i j : Nat} {r : List Int} (hi : allP[i]? = some r) (hj : allP[j]? = some r) : i = j := by
  obtain ⟨h1, e1⟩ := List.getElem?_eq_some_iff.1 hi
  obtain ⟨h2, e2⟩ := List.getElem?_eq_some_iff.1 hj
  exact (List.getElem_inj allP_nodup).1 (e1.trans e2.symm)
theorem ents_new {j : Nat} {r : List Int} (hj : j < 120) (hr : allP[j]? = some r) : ∀ p ∈ ents j, p.1 ≠ keyV r := by
  intro p hp e
  obtain ⟨i, q, hi, hq, rfl⟩ := ents_mem (by omega) hp
  have := keyV_inj e
  subst this
  have := allP_inj hq hr
  omega
def RetIdx (w : World) (e : Ending) (w' : World) : Prop := e = .returned (.map (some w.heap.size)) ∧ TabV w' w.heap.size (ents 120) ∧ Below w.heap.size w w'
set_option maxHeartbeats 1000000 in
set_option maxRecDepth 20000 in
theorem patternIndices_any (w : World) : Calls Try.prog 61 #[] w (RetIdx w) := by
  have hmm := @run_makeMap Try.prog
  have hT0 := TabV.made w
  have hal0 : Below w.heap.size w (w.alloc (.map #[] 0)) := Below.alloc (Below.refl _ _) (Nat.le_refl _) _
  have hsz0 : w.heap.size < (w.alloc (.map #[] 0)).heap.size := by simp
  go_enter Try.func61, Try.ntmps61
  go_wp2_with fail
  refine (allPatterns_any _).mono ?_
  rintro e w1 ⟨a, c, rfl, ho, hb⟩
  have hT1 := hT0.keep hb
  have hB1 := bt hal0 hb
  obtain ⟨g, rfl, hg1, hg2⟩ := ho.form (by omega)
  have hgM : g ≠ w.heap.size := by omega
  have hgw : w.heap.size < g := by omega
  clear hb hT0 hal0 hsz0 hmm hg1
  go_wp2_with fail
  go_loopw [7] (fun i wr => ∃ j : Nat, j ≤ 120 ∧ i = .int .i64 (j : Int) ∧ TabV wr w.heap.size (ents j) ∧ OwV 83 8 w.heap.size wr (some ⟨g, 0, none⟩) 120 c (flat allP) ∧ Below w.heap.size w wr) (fun i _ => 120 - (intOf i).toNat)
  case atStart => exact ⟨0, by omega, rfl, hT1, ho.more (by simp), hB1⟩
  case round =>
    clear hT1 ho hB1 hg2
    obtain ⟨j, hj, rfl, hT, ho, hB⟩ := hrel
    by_cases hlt : j < 120
    · obtain ⟨r, hr⟩ : ∃ r, allP[j]? = some r := ⟨_, List.getElem?_eq_getElem (by rw [allP_len]; omega)⟩
      have hm := List.mem_of_getElem? hr
      have hkey := key_row (allP_row r hm).1 (row_fits hm)
      have hnew := ents_new hlt hr
      have hsucc := Lib.hid (ents_succ hr)
      have hp8 := (allP_row r hm).1
      obtain ⟨x0, x1, x2, x3, x4, x5, x6, x7, rfl⟩ := list8 r hp8
      obtain ⟨lx, hlx⟩ := hkey
      have hcl := fun i x hx => ho.cellAt (flat_at (fun q hq => (allP_row q hq).1) hr i x hx)
      have p0 : wr.cell? ⟨g, j * 8, none⟩ = some (.int .i64 x0) := hcl 0 x0 rfl
      have p1 := hcl 1 x1 rfl
      have p2 := hcl 2 x2 rfl
      have p3 := hcl 3 x3 rfl
      have p4 := hcl 4 x4 rfl
      have p5 := hcl 5 x5 rfl
      have p6 := hcl 6 x6 rfl
      have p7 := hcl 7 x7 rfl
      have b1 : (0 : Int) ≤ (j : Int) := by omega
      have b2 : (j : Int) < 120 := by omega
      have hal := Below.alloc (Below.refl wr.heap.size wr) (Nat.le_refl _) (.cells #[.int .i64 x0, .int .i64 x1, .int .i64 x2, .int .i64 x3, .int .i64 x4, .int .i64 x5, .int .i64 x6, .int .i64 x7] 83)
      have hT2 := hT.keep hal
      clear hcl hm hp8
      go_wp2_with (at_mapUpdate; refine wpList_tabV rfl _ _ _ 89 rfl 83 2 keyedW Try.underlying89 w.heap.size (ents j) rfl hT2 (ents_key hj) (keyV [x0, x1, x2, x3, x4, x5, x6, x7]) (.int .i64 (j : Int)) rfl rfl hlx hnew ?_; intro w3 hT3 hg3)
      have ho3 : OwV 83 8 w.heap.size w3 (some ⟨g, 0, none⟩) 120 c (flat allP) := (ho.keep hal).sep (a' := some ⟨w.heap.size, 0, none⟩) hg3 (fun q q1 q2 => by simp [blk] at q1 q2; omega)
      have hB3 := (bt hB hal).grown hg3 (bt hB hal).size (fun q e => by injection e with e; omega)
      rw [← hsucc.out] at hT3
      clear hT ho hB hT2 hal hg3 p0 p1 p2 p3 p4 p5 p6 p7 hnew hlx
      go_wp2_with fail
      go_roundw
      case rel => exact ⟨j + 1, by omega, by go_num, hT3, ho3, hB3⟩
      case measure => simp [intOf]; omega
    · obtain rfl : j = 120 := by omega
      go_wp2_with fail
      go_ret
      exact ⟨rfl, hT, hB⟩
theorem find0_none {vs : List Int} : ∀ (rs : List (List Int)) (k : Nat), find0 vs rs k = none → ∀ r ∈ rs, r ≠ vs := by
  intro rs
  induction rs with
  | nil => intro k _ r hr; simp at hr
  | cons q rs ih =>
    intro k h r hr
    unfold find0 at h
    split at h
    · cases h
    · rename_i hq
      rcases List.mem_cons.1 hr with rfl | hr
      · exact hq
      · exact ih (k + 1) h r hr
theorem find0_some {vs : List Int} : ∀ (rs : List (List Int)) (k j : Nat), find0 vs rs k = some j → k ≤ j ∧ rs[j - k]? = some vs := by
  intro rs
  induction rs with
  | nil => intro k j h; cases h
  | cons q rs ih =>
    intro k j h
    unfold find0 at h
    split at h
    · rename_i hq
      injection h with h
      subst h
      exact ⟨Nat.le_refl _, by simp [hq]⟩
    · obtain ⟨h1, h2⟩ := ih (k + 1) j h
      refine ⟨by omega, ?_⟩
      rw [show j - k = (j - (k + 1)) + 1 by omega]
      simpa using h2
theorem zero_i64 (w : World) : (zeroValue 2).run Try.prog w = .ok (.int .i64 0) w := by kernel_rfl
set_option maxHeartbeats 1000000 in
set_option maxRecDepth 20000 in
theorem implPatternIndex_any (a : Option Addr) (n k : Nat) (vs : List Int) (w : World) (h : Rd .i64 w a n vs) (hn : n ≤ 1000000000) :
    Calls Try.prog 17 #[.slice a n k] w (Ret (.tuple #[.int .i64 (rPatternIndex vs).1, .int .i64 (rPatternIndex vs).2]) w) := by
  have HL := Lib.hid h.len
  by_cases h8 : n = 8
  · subst h8
    have hlen : vs.length = 8 := HL.out
    obtain ⟨x0, x1, x2, x3, x4, x5, x6, x7, rfl⟩ := list8 vs hlen
    obtain ⟨lx, hlx⟩ := keyW x0 x1 x2 x3 x4 x5 x6 x7 h.2
    have hcl : ∃ b o, a = some ⟨b, o, none⟩ ∧ b < w.heap.size := by
      obtain ⟨b, o, x, e, hb, -⟩ := h.at_ (k := 0) (by omega)
      exact ⟨b, o, e, hb⟩
    obtain ⟨b, o, rfl, hbl⟩ := hcl
    have hcx : ∀ (i : Nat) (x : Int), [x0, x1, x2, x3, x4, x5, x6, x7][i]? = some x → w.cell? ⟨b, o + i, none⟩ = some (.int .i64 x) := fun i x hx => by
      have hi : i < 8 := by have := (List.getElem?_eq_some_iff.1 hx).1; simpa using this
      obtain ⟨y, hy, hyx, -⟩ := h.cell hi
      have e := hyx.out
      rw [hx] at e
      injection e with e
      rw [e]
      exact hy
    have HC := Lib.hid (fun (W : World) (hW : Below w.heap.size w W) => (show W.cell? ⟨b, o, none⟩ = some (.int .i64 x0) ∧ W.cell? ⟨b, o + 1, none⟩ = some (.int .i64 x1) ∧ W.cell? ⟨b, o + 2, none⟩ = some (.int .i64 x2) ∧ W.cell? ⟨b, o + 3, none⟩ = some (.int .i64 x3) ∧ W.cell? ⟨b, o + 4, none⟩ = some (.int .i64 x4) ∧ W.cell? ⟨b, o + 5, none⟩ = some (.int .i64 x5) ∧ W.cell? ⟨b, o + 6, none⟩ = some (.int .i64 x6) ∧ W.cell? ⟨b, o + 7, none⟩ = some (.int .i64 x7) from
      ⟨(hW.cell (p := ⟨b, o, none⟩) hbl).trans (hcx 0 x0 rfl), (hW.cell (p := ⟨b, o + 1, none⟩) hbl).trans (hcx 1 x1 rfl), (hW.cell (p := ⟨b, o + 2, none⟩) hbl).trans (hcx 2 x2 rfl), (hW.cell (p := ⟨b, o + 3, none⟩) hbl).trans (hcx 3 x3 rfl), (hW.cell (p := ⟨b, o + 4, none⟩) hbl).trans (hcx 4 x4 rfl), (hW.cell (p := ⟨b, o + 5, none⟩) hbl).trans (hcx 5 x5 rfl), (hW.cell (p := ⟨b, o + 6, none⟩) hbl).trans (hcx 6 x6 rfl), (hW.cell (p := ⟨b, o + 7, none⟩) hbl).trans (hcx 7 x7 rfl)⟩))
    have haa : ∀ W : World, (Instr.arrayAt 83 (.slice (some ⟨b, o, none⟩) 8 k)).run Try.prog W = .ok (.pointer (some ⟨b, o, none⟩)) W := fun W => by simp [Instr.arrayAt, run_underlying Try.underlying83]
    clear hcx
    cases hf : find0 [x0, x1, x2, x3, x4, x5, x6, x7] allP 0 with
    | none =>
      have hres := Lib.hid (show rPatternIndex [x0, x1, x2, x3, x4, x5, x6, x7] = (0, 4) by unfold rPatternIndex; rw [hf])
      have hno : ∀ p ∈ ents 120, p.1 ≠ keyV [x0, x1, x2, x3, x4, x5, x6, x7] := by
        intro p hp e
        obtain ⟨i, q, hi, hq, rfl⟩ := ents_mem (by omega) hp
        exact find0_none _ _ hf q (List.mem_of_getElem? hq) (keyV_inj e)
      have HLk := Lib.hid (fun (M : Nat) (W : World) (hT : TabV W M (ents 120)) => (show (Instr.lookup 89 (.map (some M)) (.agg #[.int .i64 x0, .int .i64 x1, .int .i64 x2, .int .i64 x3, .int .i64 x4, .int .i64 x5, .int .i64 x6, .int .i64 x7]) true).run Try.prog W = .ok (.tuple #[.int .i64 0, .bool false]) W from hT.no keyedW Try.underlying89 (ents_key (by omega)) hlx hno (zero_i64 W) true))
      clear hf hno hlen hlx
      go_enter Try.func17, Try.ntmps17
      go_wp2_with fail
      go_region_held3 (fun W => W.cell? ⟨b, o, none⟩ = some (.int .i64 x0) ∧ W.cell? ⟨b, o + 1, none⟩ = some (.int .i64 x1) ∧ W.cell? ⟨b, o + 2, none⟩ = some (.int .i64 x2) ∧ W.cell? ⟨b, o + 3, none⟩ = some (.int .i64 x3) ∧ W.cell? ⟨b, o + 4, none⟩ = some (.int .i64 x4) ∧ W.cell? ⟨b, o + 5, none⟩ = some (.int .i64 x5) ∧ W.cell? ⟨b, o + 6, none⟩ = some (.int .i64 x6) ∧ W.cell? ⟨b, o + 7, none⟩ = some (.int .i64 x7)) (first | exact HC.out _ (Below.refl _ _).drew | exact HC.out _ (Below.refl _ _) | exact HC.out _ hb1 | exact HC.out _ hb1.drew | go_keep) (first | (go_at_call 61; refine (patternIndices_any _).mono ?_; rintro e w1 ⟨rfl, hT, hb1⟩; replace hb1 := bt (w := w) (by first | exact Below.refl _ _ | exact (Below.refl _ _).drew | exact ((Below.refl _ _).drew).drew) hb1; have hrun0 := HLk.out w.heap.size w1 hT; have hrun1 := HLk.out w.heap.size w1.drew hT))
      all_goals go_wp2_with fail
      all_goals go_ret2
      all_goals exact ⟨ret2_int hres.out, hb1⟩
    | some j =>
      have hres := Lib.hid (show rPatternIndex [x0, x1, x2, x3, x4, x5, x6, x7] = ((j : Int), 0) by unfold rPatternIndex; rw [hf])
      have hj := (find0_some _ _ _ hf).2
      rw [Nat.sub_zero] at hj
      have hj120 : j < 120 := by have := (List.getElem?_eq_some_iff.1 hj).1; rw [allP_len] at this; exact this
      have hin : (((.agg #[.int .i64 x0, .int .i64 x1, .int .i64 x2, .int .i64 x3, .int .i64 x4, .int .i64 x5, .int .i64 x6, .int .i64 x7]) : Value), Value.int .i64 (j : Int)) ∈ ents 120 := by
        unfold ents
        exact List.mem_map.2 ⟨j, by simpa using hj120, by rw [hj]; rfl⟩
      have huniq : ∀ p ∈ ents 120, p.1 = (.agg #[.int .i64 x0, .int .i64 x1, .int .i64 x2, .int .i64 x3, .int .i64 x4, .int .i64 x5, .int .i64 x6, .int .i64 x7]) → p.2 = .int .i64 (j : Int) := by
        intro p hp e
        obtain ⟨i, q, hi, hq, rfl⟩ := ents_mem (by omega) hp
        have := keyV_inj (r := q) (q := [x0, x1, x2, x3, x4, x5, x6, x7]) e
        subst this
        rw [allP_inj hq hj]
      have HLk := Lib.hid (fun (M : Nat) (W : World) (hT : TabV W M (ents 120)) => (show (Instr.lookup 89 (.map (some M)) (.agg #[.int .i64 x0, .int .i64 x1, .int .i64 x2, .int .i64 x3, .int .i64 x4, .int .i64 x5, .int .i64 x6, .int .i64 x7]) true).run Try.prog W = .ok (.tuple #[.int .i64 (j : Int), .bool true]) W from hT.yes keyedW Try.underlying89 (ents_key (by omega)) hin huniq true))
      clear hin huniq hj
      clear hf hlen hlx
      go_enter Try.func17, Try.ntmps17
      go_wp2_with fail
      go_region_held3 (fun W => W.cell? ⟨b, o, none⟩ = some (.int .i64 x0) ∧ W.cell? ⟨b, o + 1, none⟩ = some (.int .i64 x1) ∧ W.cell? ⟨b, o + 2, none⟩ = some (.int .i64 x2) ∧ W.cell? ⟨b, o + 3, none⟩ = some (.int .i64 x3) ∧ W.cell? ⟨b, o + 4, none⟩ = some (.int .i64 x4) ∧ W.cell? ⟨b, o + 5, none⟩ = some (.int .i64 x5) ∧ W.cell? ⟨b, o + 6, none⟩ = some (.int .i64 x6) ∧ W.cell? ⟨b, o + 7, none⟩ = some (.int .i64 x7)) (first | exact HC.out _ (Below.refl _ _).drew | exact HC.out _ (Below.refl _ _) | exact HC.out _ hb1 | exact HC.out _ hb1.drew | go_keep) (first | (go_at_call 61; refine (patternIndices_any _).mono ?_; rintro e w1 ⟨rfl, hT, hb1⟩; replace hb1 := bt (w := w) (by first | exact Below.refl _ _ | exact (Below.refl _ _).drew | exact ((Below.refl _ _).drew).drew) hb1; have hrun0 := HLk.out w.heap.size w1 hT; have hrun1 := HLk.out w.heap.size w1.drew hT))
      all_goals go_wp2_with fail
      all_goals go_ret2
      all_goals exact ⟨ret2_int hres.out, hb1⟩
  · have hres := Lib.hid (show rPatternIndex vs = (0, 4) by
      unfold rPatternIndex
      cases hf : find0 vs allP 0 with
      | none => rfl
      | some j =>
        exfalso
        have h2 := (find0_some _ _ _ hf).2
        have := (allP_row vs (List.mem_of_getElem? h2)).1
        exact h8 (by rw [← HL.out]; exact this))
    have hd : ((n : Int) != 8) = true := by rw [bne_iff_ne]; omega
    clear h8
    go_enter Try.func17, Try.ntmps17
    go_wp2_with fail
    go_ret2
    exact ⟨ret2_int hres.out, Below.refl _ _⟩
end Go.Proofs.Ytckmenjbblgiiaa
