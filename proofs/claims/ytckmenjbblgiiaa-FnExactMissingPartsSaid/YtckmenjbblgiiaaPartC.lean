/-
  Contracts: the comparison and the marks of lists of parts in the laws.
  Conditions: lists of at most 2^20 parts.
-/
import Derived.Test.YtckmenjbblgiiaaPartB
set_option linter.unusedVariables false
namespace Go.Proofs.Ytckmenjbblgiiaa
open Go.RowKit Go.G8
theorem keepD {w w1 : World} {b i : Nat} {v : Value} (hb : Below w.drew.heap.size w.drew w1) (hlt : b < w.heap.size) (hc : w.cell? ⟨b, i, none⟩ = some v) : w1.cell? ⟨b, i, none⟩ = some v :=
  ((bcell hb).1 b i (by simpa using hlt)).trans (by simpa using hc)
set_option maxHeartbeats 1000000 in
theorem eqPart_same (i c p : Int) (s : ByteArray) (w : World) :
    Calls Try.prog 92 #[.agg #[.int .i64 i, .int .i64 c, .int .i64 p, .string s], .agg #[.int .i64 i, .int .i64 c, .int .i64 p, .string s]] w (Ret (.bool true) w) := by
  have hne : (s.toList != s.toList) = false := by simp
  go_enter Try.func92, Try.ntmps92
  go_wp2_with fail
  go_ret
  exact ⟨rfl, ((Below.refl _ _).alloc (Nat.le_refl _) _).alloc (by simp) _⟩
set_option maxHeartbeats 1000000 in
set_option maxRecDepth 20000 in
theorem eqPartS_same (a1 a2 : Option Addr) (n c1 c2 : Nat) (l : List PartV) (w : World) (h1 : RdP w a1 n l) (h2 : RdP w a2 n l) (hn : n ≤ 1048576) :
    Calls Try.prog 53 #[.slice a1 n c1, .slice a2 n c2] w (Ret (.bool true) w) := by
  have H1 := Lib.hid (fun W (hb : Below w.heap.size w W) => h1.to hb)
  have H2 := Lib.hid (fun W (hb : Below w.heap.size w W) => h2.to hb)
  have HL := Lib.hid h1.len
  clear h1 h2
  go_enter Try.func53, Try.ntmps53
  go_wp2_with fail
  go_loopw [5] (fun i wr => ∃ j : Nat, j ≤ n ∧ i = .int .i64 (j : Int) ∧ Below w.heap.size w wr) (fun i _ => n - (intOf i).toNat)
  case atStart => exact ⟨0, by omega, rfl, Below.refl _ _⟩
  case round =>
    obtain ⟨j, hj, rfl, hB⟩ := hrel
    by_cases hlt : j < n
    · have hq : l[j]? = some (l[j]'(by rw [HL.out]; exact hlt)) := List.getElem?_eq_getElem _
      generalize l[j]'(by rw [HL.out]; exact hlt) = q at *
      obtain ⟨b1, o1, rfl, hlb1, c0, c1, c2, c3⟩ := (H1.out wr hB).at_ hq
      obtain ⟨b2, o2, rfl, hlb2, d0, d1, d2, d3⟩ := (H2.out wr hB).at_ hq
      have hl1 : (0 : Int) ≤ (j : Int) := by omega
      have hl2 : (j : Int) < (n : Int) := by omega
      have HE := Lib.hid (fun W => eqPart_same q.ix q.ct q.pr q.tx W)
      go_wp2_with fail
      go_region_held3 (fun w' => w'.cell? ⟨b1, o1 + j * 4, none⟩ = some (.int .i64 q.ix) ∧ w'.cell? ⟨b1, o1 + j * 4 + 1, none⟩ = some (.int .i64 q.ct) ∧ w'.cell? ⟨b1, o1 + j * 4 + 2, none⟩ = some (.int .i64 q.pr) ∧ w'.cell? ⟨b1, o1 + j * 4 + 3, none⟩ = some (.string q.tx) ∧ w'.cell? ⟨b2, o2 + j * 4, none⟩ = some (.int .i64 q.ix) ∧ w'.cell? ⟨b2, o2 + j * 4 + 1, none⟩ = some (.int .i64 q.ct) ∧ w'.cell? ⟨b2, o2 + j * 4 + 2, none⟩ = some (.int .i64 q.pr) ∧ w'.cell? ⟨b2, o2 + j * 4 + 3, none⟩ = some (.string q.tx)) (first | go_keep | exact ⟨keepD hb1 hlb1 c0, keepD hb1 hlb1 c1, keepD hb1 hlb1 c2, keepD hb1 hlb1 c3, keepD hb1 hlb2 d0, keepD hb1 hlb2 d1, keepD hb1 hlb2 d2, keepD hb1 hlb2 d3⟩) (first | (go_at_call 92; refine (HE.out _).mono ?_; rintro e w1 ⟨rfl, hb1⟩))
      have hb2 := bt hB (((Below.refl wr.heap.size wr).drew).trans hb1)
      go_wp2_with fail
      go_roundw
      case rel => exact ⟨j + 1, by omega, by go_num, hb2⟩
      case measure => simp [intOf]; omega
    · obtain rfl : j = n := by omega
      go_wp2_with fail
      go_ret
      exact ⟨rfl, hB⟩
theorem keepsC {S : Nat} {w w1 w2 : World} (h1 : w.grownBy w1 (some S)) (h2 : w1.grownBy w2 (some S)) : w.grownBy w2 (some S) :=
  ⟨h2.os.trans h1.os, h2.tape.trans h1.tape, h2.output.trans h1.output, Nat.le_trans h1.size h2.size, fun q hq hne => (h2.block q (Nat.lt_of_lt_of_le hq h1.size) hne).trans (h1.block q hq hne)⟩
theorem gsC (w : World) (b i : Nat) (v : Value) : w.grownBy (w.setCell ⟨b, i, none⟩ v) (some b) := ⟨rfl, rfl, rfl, by simp, fun q hq hne => Below.heap_setCell _ _ _ q (fun e => hne (by rw [e]))⟩
theorem grownB {w w' : World} (hb : Below w.heap.size w w') (r : Option Nat) : w.grownBy w' r := ⟨hb.os, hb.tape, hb.output, hb.size, fun k hk _ => hb.block k hk⟩
set_option maxHeartbeats 2000000 in
set_option maxRecDepth 20000 in
theorem markPartS_any (D : Nat) (a : Option Addr) (c n : Nat) (l : List PartV) (w : World) (h : OwV 133 4 D w a n c (l.flatMap pCs)) (hn1 : n ≤ 1048576) :
    Calls Try.prog 54 #[.slice a n c, .int .i64 1] w (fun e w' => e = .returned (.int .i64 (1 + 4 * (n : Int))) ∧ w.grownBy w' (blk a)) := by
  go_enter Try.func54, Try.ntmps54
  go_wp2_with fail
  go_loopw [1, 5] (fun v i wr => ∃ (j : Nat) (l' : List PartV), j ≤ n ∧ i = .int .i64 (j : Int) ∧ v = .int .i64 (1 + 4 * (j : Int)) ∧ OwV 133 4 D wr a n c (l'.flatMap pCs) ∧ w.grownBy wr (blk a)) (fun _ i _ => n - (intOf i).toNat)
  case atStart => exact ⟨0, l, by omega, rfl, rfl, h, grownB (Below.refl _ _) _⟩
  case round =>
    clear h
    obtain ⟨j, l', hj, rfl, rfl, h, hB⟩ := hrel
    by_cases hlt : j < n
    · have hlen : l'.length = n := by have := h.len; rw [pflat_len] at this; omega
      obtain ⟨g, rfl, hg1, hg2⟩ := h.form (by omega)
      obtain ⟨A, q, C, rfl, rfl⟩ : ∃ A q C, l' = A ++ q :: C ∧ A.length = j :=
        ⟨l'.take j, l'[j]'(by omega), l'.drop (j + 1), by conv => lhs; rw [← List.take_append_drop j l', List.drop_eq_getElem_cons (by omega)], by rw [List.length_take]; omega⟩
      have hl1 : (0 : Int) ≤ (A.length : Int) := by omega
      have hl2 : (A.length : Int) < (n : Int) := by omega
      obtain ⟨d0, d1, d2, d3⟩ := ownP_cells (k := A.length) (q := q) h (by simp)
      have hz := h.free
      have z0 := hz (A.length * 4)
      have z1 := hz (A.length * 4 + 1)
      have z2 := hz (A.length * 4 + 2)
      have z3 := hz (A.length * 4 + 3)
      have e1 : IntKind.i64.wrap (1 + 4 * (A.length : Int) + 1) = 2 + 4 * (A.length : Int) := (IntWalk.i64_in _ (by omega)).trans (by omega)
      have e2 : IntKind.i64.wrap (2 + 4 * (A.length : Int) + 1) = 3 + 4 * (A.length : Int) := (IntWalk.i64_in _ (by omega)).trans (by omega)
      have e3 : IntKind.i64.wrap (3 + 4 * (A.length : Int) + 1) = 4 + 4 * (A.length : Int) := (IntWalk.i64_in _ (by omega)).trans (by omega)
      have e4 : IntKind.i64.wrap (4 + 4 * (A.length : Int) + 1) = 5 + 4 * (A.length : Int) := (IntWalk.i64_in _ (by omega)).trans (by omega)
      go_wp2_with fail
      have d3' : (((wr.setCell ⟨g, A.length * 4, none⟩ (.int .i64 (1 + 4 * (A.length : Int)))).setCell ⟨g, A.length * 4 + 1, none⟩ (.int .i64 (2 + 4 * (A.length : Int)))).setCell ⟨g, A.length * 4 + 2, none⟩ (.int .i64 (3 + 4 * (A.length : Int)))).cell? ⟨g, A.length * 4 + 3, none⟩ = some (.string q.tx) := by
        rw [World.cell?_setCell_other _ _ _ _ (by simp), World.cell?_setCell_other _ _ _ _ (by simp), World.cell?_setCell_other _ _ _ _ (by simp)]
        exact d3
      have h3 := ((h.set_ (A.length * 4) (.int .i64 (1 + 4 * (A.length : Int)))).set_ (A.length * 4 + 1) (.int .i64 (2 + 4 * (A.length : Int)))).set_ (A.length * 4 + 2) (.int .i64 (3 + 4 * (A.length : Int)))
      have hB3 : w.grownBy (((wr.setCell ⟨g, A.length * 4, none⟩ (.int .i64 (1 + 4 * (A.length : Int)))).setCell ⟨g, A.length * 4 + 1, none⟩ (.int .i64 (2 + 4 * (A.length : Int)))).setCell ⟨g, A.length * 4 + 2, none⟩ (.int .i64 (3 + 4 * (A.length : Int)))) (some g) := keepsC (keepsC (keepsC hB (gsC wr g _ _)) (gsC _ g _ _)) (gsC _ g _ _)
      have hs3 : g < (((wr.setCell ⟨g, A.length * 4, none⟩ (.int .i64 (1 + 4 * (A.length : Int)))).setCell ⟨g, A.length * 4 + 1, none⟩ (.int .i64 (2 + 4 * (A.length : Int)))).setCell ⟨g, A.length * 4 + 2, none⟩ (.int .i64 (3 + 4 * (A.length : Int)))).heap.size := by simpa using hg2
      clear h hB d0 d1 d2 d3 hz z0 z1 z2 z3
      generalize (((wr.setCell ⟨g, A.length * 4, none⟩ (.int .i64 (1 + 4 * (A.length : Int)))).setCell ⟨g, A.length * 4 + 1, none⟩ (.int .i64 (2 + 4 * (A.length : Int)))).setCell ⟨g, A.length * 4 + 2, none⟩ (.int .i64 (3 + 4 * (A.length : Int)))) = W3 at *
      have HM := markText_any (4 + 4 * A.length) W3 (by omega) (by omega)
      push_cast at HM
      refine HM.mono ?_
      rintro e w4 ⟨rfl, hb4⟩
      have d4 := ((bcell hb4).1 g (A.length * 4 + 3) hs3).trans d3'
      have h4 := h3.keep hb4
      have hB4 := keepsC hB3 (grownB hb4 (some g))
      have z4 := h4.free (A.length * 4 + 3)
      clear h3 hB3 d3' hb4
      go_wp2_with fail
      have h5 := h4.set_ (A.length * 4 + 3) (.string (markT (4 + 4 * A.length)))
      rw [pset4 A C q ⟨1 + 4 * (A.length : Int), 2 + 4 * (A.length : Int), 3 + 4 * (A.length : Int), markT (4 + 4 * A.length)⟩] at h5
      go_roundw
      case rel => exact ⟨A.length + 1, _, by omega, by go_num, congrArg (fun z => Value.int .i64 z) (by push_cast; omega), h5, keepsC hB4 (gsC _ g _ _)⟩
      case measure => simp [intOf]; omega
    · obtain rfl : j = n := by omega
      go_wp2_with fail
      go_ret
      exact ⟨rfl, hB⟩
end Go.Proofs.Ytckmenjbblgiiaa
