/-
  Contracts: the comparison and the marks of lists of parts in the laws.
  Conditions: lists of at most 2^20 parts.
-/
import Derived.Test.YtnajjofaijpciaaDoorPartB
set_option linter.unusedVariables false
namespace Go.Proofs.YtnajjofaijpciaaDoor
open Go.RowKit Go.G8
theorem keepD {w w1 : World} {b i : Nat} {v : Value} (hb : Below w.drew.heap.size w.drew w1) (hlt : b < w.heap.size) (hc : w.cell? ⟨b, i, none⟩ = some v) : w1.cell? ⟨b, i, none⟩ = some v :=
  ((bcell hb).1 b i (by simpa using hlt)).trans (by simpa using hc)
set_option maxHeartbeats 1000000 in
theorem eqPart_same (i c p : Int) (s : ByteArray) (w : World) :
    Calls Tryd.prog 17 #[.agg #[.int .i64 i, .int .i64 c, .int .i64 p, .string s], .agg #[.int .i64 i, .int .i64 c, .int .i64 p, .string s]] w (Ret (.bool true) w) := by
  have hne : (s.toList != s.toList) = false := by simp
  go_enter Tryd.func17, Tryd.ntmps17
  go_wp2_with fail
  go_ret
  exact ⟨rfl, ((Below.refl _ _).alloc (Nat.le_refl _) _).alloc (by simp) _⟩
set_option maxHeartbeats 1000000 in
set_option maxRecDepth 20000 in
theorem eqPartS_same (a1 a2 : Option Addr) (n c1 c2 : Nat) (l : List PartV) (w : World) (h1 : RdP w a1 n l) (h2 : RdP w a2 n l) (hn : n ≤ 1048576) :
    Calls Tryd.prog 8 #[.slice a1 n c1, .slice a2 n c2] w (Ret (.bool true) w) := by
  have H1 := Lib.hid (fun W (hb : Below w.heap.size w W) => h1.to hb)
  have H2 := Lib.hid (fun W (hb : Below w.heap.size w W) => h2.to hb)
  have HL := Lib.hid h1.len
  clear h1 h2
  go_enter Tryd.func8, Tryd.ntmps8
  go_wp2_with fail
  go_loopw [5] (fun i wr => ∃ j : Nat, j ≤ n ∧ i = .int .i64 (j : Int) ∧ Below w.heap.size w wr) (fun i _ => n - (intOf i).toNat)
  case atStart => exact ⟨0, by omega, rfl, Below.refl _ _⟩
  case round =>
    obtain ⟨j, hj, rfl, hB⟩ := hrel
    by_cases hlt : j < n
    · have hq : l[j]? = some (l[j]'(by rw [HL.out]; exact hlt)) := List.getElem?_eq_getElem _
      generalize l[j]'(by rw [HL.out]; exact hlt) = q at *
      obtain ⟨b1, o1, rfl, hlb1, c0, c1, c2, c3⟩ := (H1.out wr hB).at_ hq
      obtain ⟨b2, o2, rfl, hlb2, d0, d1, d2, d3⟩ := (H2.out wr hB).at_ hq
      have hl1 : (0 : Int) ≤ (j : Int) := by omega
      have hl2 : (j : Int) < (n : Int) := by omega
      have HE := Lib.hid (fun W => eqPart_same q.ix q.ct q.pr q.tx W)
      go_wp2_with fail
      go_region_held3 (fun w' => w'.cell? ⟨b1, o1 + j * 4, none⟩ = some (.int .i64 q.ix) ∧ w'.cell? ⟨b1, o1 + j * 4 + 1, none⟩ = some (.int .i64 q.ct) ∧ w'.cell? ⟨b1, o1 + j * 4 + 2, none⟩ = some (.int .i64 q.pr) ∧ w'.cell? ⟨b1, o1 + j * 4 + 3, none⟩ = some (.string q.tx) ∧ w'.cell? ⟨b2, o2 + j * 4, none⟩ = some (.int .i64 q.ix) ∧ w'.cell? ⟨b2, o2 + j * 4 + 1, none⟩ = some (.int .i64 q.ct) ∧ w'.cell? ⟨b2, o2 + j * 4 + 2, none⟩ = some (.int .i64 q.pr) ∧ w'.cell? ⟨b2, o2 + j * 4 + 3, none⟩ = some (.string q.tx)) (first | go_keep | exact ⟨keepD hb1 hlb1 c0, keepD hb1 hlb1 c1, keepD hb1 hlb1 c2, keepD hb1 hlb1 c3, keepD hb1 hlb2 d0, keepD hb1 hlb2 d1, keepD hb1 hlb2 d2, keepD hb1 hlb2 d3⟩) (first | (go_at_call 17; refine (HE.out _).mono ?_; rintro e w1 ⟨rfl, hb1⟩))
      have hb2 := bt hB (((Below.refl wr.heap.size wr).drew).trans hb1)
      go_wp2_with fail
      go_roundw
      case rel => exact ⟨j + 1, by omega, by go_num, hb2⟩
      case measure => simp [intOf]; omega
    · obtain rfl : j = n := by omega
      go_wp2_with fail
      go_ret
      exact ⟨rfl, hB⟩
theorem keepsC {S : Nat} {w w1 w2 : World} (h1 : w.grownBy w1 (some S)) (h2 : w1.grownBy w2 (some S)) : w.grownBy w2 (some S) :=
  ⟨h2.os.trans h1.os, h2.tape.trans h1.tape, h2.output.trans h1.output, Nat.le_trans h1.size h2.size, fun q hq hne => (h2.block q (Nat.lt_of_lt_of_le hq h1.size) hne).trans (h1.block q hq hne)⟩
theorem gsC (w : World) (b i : Nat) (v : Value) : w.grownBy (w.setCell ⟨b, i, none⟩ v) (some b) := ⟨rfl, rfl, rfl, by simp, fun q hq hne => Below.heap_setCell _ _ _ q (fun e => hne (by rw [e]))⟩
theorem grownB {w w' : World} (hb : Below w.heap.size w w') (r : Option Nat) : w.grownBy w' r := ⟨hb.os, hb.tape, hb.output, hb.size, fun k hk _ => hb.block k hk⟩
end Go.Proofs.YtnajjofaijpciaaDoor
