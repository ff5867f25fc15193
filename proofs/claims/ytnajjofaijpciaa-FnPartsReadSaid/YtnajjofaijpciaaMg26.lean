/-
  Texts of the proof, one behind the other: each bears its own heading.
  Conditions: as the headings say.
-/
import Derived.Test.YtnajjofaijpciaaMg1
import Derived.Test.YtnajjofaijpciaaMg14
import Derived.Test.YtnajjofaijpciaaMg16
/-
  Contracts: the marks of strings in the laws.
  Conditions: numbers from 1 to 10^15.
-/
set_option linter.unusedVariables false
namespace Go.Proofs.Ytnajjofaijpciaa
open Go.RowKit Go.G8
/-- The decimal digits of a number ahead of a text. -/
def digT : Nat → Nat → ByteArray → ByteArray
  | 0, _, out => out
  | f + 1, n, out => if n = 0 then out else digT f (n / 10) (strOfNums [48 + (n : Int) % 10] ++ out)
def markT (k : Nat) : ByteArray := ⟨#[109]⟩ ++ digT 20 k ⟨#[]⟩
set_option maxHeartbeats 1000000 in
set_option maxRecDepth 20000 in
theorem markText_any (k : Nat) (w : World) (h0 : 0 < k) (h1 : k ≤ 1000000000000000) :
    Calls Try.prog 39 #[.int .i64 k] w (Ret (.string (markT k)) w) := by
  have d0 : decide ((k : Int) ≤ 0) = false := by simp; omega
  have d1 : decide (k = 0) = false := by simp; omega
  go_enter Try.func39, Try.ntmps39
  go_wp2_with fail
  go_loopw [0, 3] (fun n o wr => ∃ (f j : Nat) (out : ByteArray), n = .int .i64 (j : Int) ∧ o = .string out ∧ j < 10 ^ f ∧ f ≤ 20 ∧ j ≤ k ∧ out.size + f ≤ 20 ∧ Hid (digT f j out = digT 20 k ⟨#[]⟩) ∧ Below w.heap.size w wr) (fun n _ _ => (intOf n).toNat)
  case atStart => exact ⟨20, k, ⟨#[]⟩, rfl, rfl, by omega, by omega, by omega, by decide, rfl, Below.refl _ _⟩
  case round =>
    obtain ⟨f, j, out, rfl, rfl, hj, hf, hjk, hsz, hdig, hbw⟩ := hrel
    by_cases hz : j = 0
    · subst hz
      have ho := Lib.hid (show out = digT 20 k ⟨#[]⟩ by rw [← hdig.out]; cases f <;> simp [digT])
      go_wp2_with fail
      go_ret
      exact ⟨by unfold markT; rw [← ho.out]; rfl, hbw⟩
    · have hx : IntKind.u8.wrap (48 + (j : Int) % 10) = 48 + (j : Int) % 10 := IntWalk.u8_in _ (by omega)
      have hx1 : IntKind.i64.wrap (48 + (j : Int) % 10) = 48 + (j : Int) % 10 := IntWalk.i64_in _ (by omega)
      have hcv : (convert 49 9 (.slice (some ⟨wr.heap.size, 0, none⟩) 1 1)).run Try.prog (wr.alloc (.cells #[.int .u8 (48 + (j : Int) % 10)] 5)) = .ok (.string (strOfNums [48 + (j : Int) % 10])) (wr.alloc (.cells #[.int .u8 (48 + (j : Int) % 10)] 5)) :=
        conv_str (P := Try.prog) (Ow.lit (K := .u8) (E := 5) (B := 0) (xs := [48 + (j : Int) % 10]) wr (Nat.zero_le _) (by simp)) 49 9 5 Try.underlying49 Try.underlying5 Try.underlying9
      have hz1 : (strOfNums [48 + (j : Int) % 10]).size = 1 := by rw [strOfNums_size]; rfl
      have hb : ¬ 9223372036854775807 < (strOfNums [48 + (j : Int) % 10]).size + out.size := by omega
      rcases f with _ | f
      · simp at hj; omega
      go_wp2_with fail
      go_roundw
      case rel =>
        refine ⟨f, j / 10, strOfNums [48 + (j : Int) % 10] ++ out, by simp, rfl, by rw [Nat.pow_succ] at hj; omega, by omega, by omega, ?_, ?_, Below.alloc hbw hbw.size _⟩
        · rw [ByteArray.size_append]; omega
        · refine Lib.hid ?_
          rw [← hdig.out]
          conv => rhs; unfold digT
          rw [if_neg hz]
      case measure => simp [intOf]; omega
end Go.Proofs.Ytnajjofaijpciaa
/-
  Contracts: the comparison and the marks of lists of segments in the laws.
  Conditions: lists of at most 1000 segments.
-/
set_option linter.unusedVariables false
namespace Go.Proofs.Ytnajjofaijpciaa
open Go.RowKit Go.G8
theorem keepE {w w1 : World} {b i : Nat} {v : Value} (hb : Below w.drew.heap.size w.drew w1) (hlt : b < w.heap.size) (hc : w.cell? ⟨b, i, none⟩ = some v) : w1.cell? ⟨b, i, none⟩ = some v :=
  ((bcell hb).1 b i (by simpa using hlt)).trans (by simpa using hc)
theorem keepsG {S : Nat} {w w1 w2 : World} (h1 : w.grownBy w1 (some S)) (h2 : w1.grownBy w2 (some S)) : w.grownBy w2 (some S) :=
  ⟨h2.os.trans h1.os, h2.tape.trans h1.tape, h2.output.trans h1.output, Nat.le_trans h1.size h2.size, fun q hq hne => (h2.block q (Nat.lt_of_lt_of_le hq h1.size) hne).trans (h1.block q hq hne)⟩
theorem gsG (w : World) (b i : Nat) (v : Value) : w.grownBy (w.setCell ⟨b, i, none⟩ v) (some b) := ⟨rfl, rfl, rfl, by simp, fun q hq hne => Below.heap_setCell _ _ _ q (fun e => hne (by rw [e]))⟩
theorem grownG {w w' : World} (hb : Below w.heap.size w w') (r : Option Nat) : w.grownBy w' r := ⟨hb.os, hb.tape, hb.output, hb.size, fun k hk _ => hb.block k hk⟩
theorem pset2 (A B : List SegV) (q p : SegV) : ((((A ++ q :: B).flatMap sgC).set (A.length * 2) (.int .i64 p.md)).set (A.length * 2 + 1) (.string p.tx)) = (A ++ p :: B).flatMap sgC := by
  have h4 : (sgC q).length = 2 := rfl
  have hl := sflat_len A
  rw [List.flatMap_append, List.flatMap_append, List.flatMap_cons, List.flatMap_cons]
  rw [List.set_append_right _ _ (by omega), List.set_append_right _ _ (by omega), hl]
  rw [show A.length * 2 - A.length * 2 = 0 by omega, show A.length * 2 + 1 - A.length * 2 = 1 by omega]
  rfl
theorem ownG_cells {B g c n k : Nat} {w : World} {l : List SegV} {q : SegV} (h : OwV 24 2 B w (some ⟨g, 0, none⟩) n c (l.flatMap sgC)) (hk : l[k]? = some q) :
    w.cell? ⟨g, k * 2, none⟩ = some (.int .i64 q.md) ∧ w.cell? ⟨g, k * 2 + 1, none⟩ = some (.string q.tx) := by
  have c := fun j (hj : j < 2) v (hv : (sgC q)[j]? = some v) => h.cellAt ((sflat hk hj).trans hv)
  exact ⟨c 0 (by omega) _ rfl, c 1 (by omega) _ rfl⟩
/-- Segments as the marks leave them. -/
def mkS (j : Nat) : SegV := ⟨1 + 2 * (j : Int), markT (2 + 2 * j)⟩
def mksS (n : Nat) : List SegV := (List.range n).map mkS
theorem mksS_len (n : Nat) : (mksS n).length = n := by simp [mksS]
theorem mksS_succ (n : Nat) : mksS (n + 1) = mksS n ++ [mkS n] := by simp [mksS, List.range_succ]
theorem mksS_get {n k : Nat} (h : k < n) : (mksS n)[k]? = some (mkS k) := by simp [mksS, h]
set_option maxHeartbeats 1000000 in
theorem eqSegment_same (m : Int) (s : ByteArray) (w : World) :
    Calls Try.prog 11 #[.agg #[.int .i64 m, .string s], .agg #[.int .i64 m, .string s]] w (Ret (.bool true) w) := by
  have hne : (s.toList != s.toList) = false := by simp
  go_enter Try.func11, Try.ntmps11
  go_wp2_with fail
  go_ret
  exact ⟨rfl, ((Below.refl _ _).alloc (Nat.le_refl _) _).alloc (by simp) _⟩
set_option maxHeartbeats 1000000 in
set_option maxRecDepth 20000 in
theorem eqSegmentS_same (a1 a2 : Option Addr) (n c1 c2 : Nat) (l : List SegV) (w : World) (h1 : RdG w a1 n l) (h2 : RdG w a2 n l) (hn : n ≤ 1048576) :
    Calls Try.prog 16 #[.slice a1 n c1, .slice a2 n c2] w (Ret (.bool true) w) := by
  have H1 := Lib.hid (fun W (hb : Below w.heap.size w W) => h1.to hb)
  have H2 := Lib.hid (fun W (hb : Below w.heap.size w W) => h2.to hb)
  have HL := Lib.hid h1.len
  clear h1 h2
  go_enter Try.func16, Try.ntmps16
  go_wp2_with fail
  go_loopw [5] (fun i wr => ∃ j : Nat, j ≤ n ∧ i = .int .i64 (j : Int) ∧ Below w.heap.size w wr) (fun i _ => n - (intOf i).toNat)
  case atStart => exact ⟨0, by omega, rfl, Below.refl _ _⟩
  case round =>
    obtain ⟨j, hj, rfl, hB⟩ := hrel
    by_cases hlt : j < n
    · have hq : l[j]? = some (l[j]'(by rw [HL.out]; exact hlt)) := List.getElem?_eq_getElem _
      generalize l[j]'(by rw [HL.out]; exact hlt) = q at *
      obtain ⟨b1, o1, rfl, hlb1, c0, c1⟩ := (H1.out wr hB).at_ hq
      obtain ⟨b2, o2, rfl, hlb2, d0, d1⟩ := (H2.out wr hB).at_ hq
      have hl1 : (0 : Int) ≤ (j : Int) := by omega
      have hl2 : (j : Int) < (n : Int) := by omega
      have HE := Lib.hid (fun W => eqSegment_same q.md q.tx W)
      go_wp2_with fail
      go_region_held3 (fun w' => w'.cell? ⟨b1, o1 + j * 2, none⟩ = some (.int .i64 q.md) ∧ w'.cell? ⟨b1, o1 + j * 2 + 1, none⟩ = some (.string q.tx) ∧ w'.cell? ⟨b2, o2 + j * 2, none⟩ = some (.int .i64 q.md) ∧ w'.cell? ⟨b2, o2 + j * 2 + 1, none⟩ = some (.string q.tx)) (first | go_keep | exact ⟨keepE hb1 hlb1 c0, keepE hb1 hlb1 c1, keepE hb1 hlb2 d0, keepE hb1 hlb2 d1⟩) (first | (go_at_call 11; refine (HE.out _).mono ?_; rintro e w1 ⟨rfl, hb1⟩))
      have hb2 := bt hB (((Below.refl wr.heap.size wr).drew).trans hb1)
      go_wp2_with fail
      go_roundw
      case rel => exact ⟨j + 1, by omega, by go_num, hb2⟩
      case measure => simp [intOf]; omega
    · obtain rfl : j = n := by omega
      go_wp2_with fail
      go_ret
      exact ⟨rfl, hB⟩
set_option maxHeartbeats 2000000 in
set_option maxRecDepth 20000 in
theorem markSegmentS_any (D : Nat) (a : Option Addr) (c n : Nat) (l : List SegV) (w : World) (h : OwV 24 2 D w a n c (l.flatMap sgC)) (hn1 : n ≤ 1000) :
    Calls Try.prog 18 #[.slice a n c, .int .i64 1] w (fun e w' => e = .returned (.int .i64 (1 + 2 * (n : Int))) ∧ OwV 24 2 D w' a n c ((mksS n).flatMap sgC) ∧ w.grownBy w' (blk a)) := by
  go_enter Try.func18, Try.ntmps18
  go_wp2_with fail
  go_loopw [1, 5] (fun v i wr => ∃ (j : Nat) (C : List SegV), j ≤ n ∧ i = .int .i64 (j : Int) ∧ v = .int .i64 (1 + 2 * (j : Int)) ∧ OwV 24 2 D wr a n c ((mksS j ++ C).flatMap sgC) ∧ w.grownBy wr (blk a)) (fun _ i _ => n - (intOf i).toNat)
  case atStart => exact ⟨0, l, by omega, rfl, rfl, h, grownG (Below.refl _ _) _⟩
  case round =>
    clear h
    obtain ⟨j, C, hj, rfl, rfl, h, hB⟩ := hrel
    have hlen : (mksS j ++ C).length = n := by have := h.len; rw [sflat_len] at this; omega
    rw [List.length_append, mksS_len] at hlen
    by_cases hlt : j < n
    · obtain ⟨g, rfl, hg1, hg2⟩ := h.form (by omega)
      obtain ⟨q, C, rfl⟩ : ∃ q C', C = q :: C' := by
        cases C with
        | nil => simp at hlen; omega
        | cons q C => exact ⟨q, C, rfl⟩
      have hl1 : (0 : Int) ≤ (j : Int) := by omega
      have hl2 : (j : Int) < (n : Int) := by omega
      obtain ⟨d0, d1⟩ := ownG_cells (k := j) (q := q) h (by rw [List.getElem?_append_right (by rw [mksS_len]; exact Nat.le_refl _), mksS_len, Nat.sub_self]; rfl)
      have hz := h.free
      have z0 := hz (j * 2)
      have z1 := hz (j * 2 + 1)
      have e1 : IntKind.i64.wrap (1 + 2 * (j : Int) + 1) = 2 + 2 * (j : Int) := (IntWalk.i64_in _ (by omega)).trans (by omega)
      have e2 : IntKind.i64.wrap (2 + 2 * (j : Int) + 1) = 3 + 2 * (j : Int) := (IntWalk.i64_in _ (by omega)).trans (by omega)
      go_wp2_with fail
      have d1' : (wr.setCell ⟨g, j * 2, none⟩ (.int .i64 (1 + 2 * (j : Int)))).cell? ⟨g, j * 2 + 1, none⟩ = some (.string q.tx) := by
        rw [World.cell?_setCell_other _ _ _ _ (by simp)]
        exact d1
      have h3 := h.set_ (j * 2) (.int .i64 (1 + 2 * (j : Int)))
      have hB3 : w.grownBy (wr.setCell ⟨g, j * 2, none⟩ (.int .i64 (1 + 2 * (j : Int)))) (some g) := keepsG hB (gsG wr g _ _)
      have hs3 : g < (wr.setCell ⟨g, j * 2, none⟩ (.int .i64 (1 + 2 * (j : Int)))).heap.size := by simpa using hg2
      clear h hB d0 d1 hz z0 z1
      generalize (wr.setCell ⟨g, j * 2, none⟩ (.int .i64 (1 + 2 * (j : Int)))) = W3 at *
      have HM := markText_any (2 + 2 * j) W3 (by omega) (by omega)
      push_cast at HM
      refine HM.mono ?_
      rintro e w4 ⟨rfl, hb4⟩
      have d4 := ((bcell hb4).1 g (j * 2 + 1) hs3).trans d1'
      have h4 := h3.keep hb4
      have hB4 := keepsG hB3 (grownG hb4 (some g))
      have z4 := h4.free (j * 2 + 1)
      clear h3 hB3 d1' hb4
      go_wp2_with fail
      have h5 := h4.set_ (j * 2 + 1) (.string (markT (2 + 2 * j)))
      have hp := pset2 (mksS j) C q (mkS j)
      rw [mksS_len] at hp
      rw [show (1 + 2 * (j : Int)) = (mkS j).md from rfl, show markT (2 + 2 * j) = (mkS j).tx from rfl, hp, ← List.singleton_append, ← List.append_assoc, ← mksS_succ] at h5
      go_roundw
      case rel => exact ⟨j + 1, C, by omega, by go_num, congrArg (fun z => Value.int .i64 z) (by push_cast; omega), h5, keepsG hB4 (gsG _ g _ _)⟩
      case measure => simp [intOf]; omega
    · obtain rfl : j = n := by omega
      obtain rfl : C = [] := List.eq_nil_of_length_eq_zero (by omega)
      rw [List.append_nil] at h
      go_wp2_with fail
      go_ret
      exact ⟨rfl, h, hB⟩
set_option maxHeartbeats 2000000 in
set_option maxRecDepth 20000 in
theorem heldSegmentS_seq (a : Option Addr) (c n : Nat) (w : World) (h : RdG w a n (mksS n)) (hn1 : n ≤ 1000) :
    Calls Try.prog 19 #[.slice a n c, .int .i64 1] w (Ret (.int .i64 (1 + 2 * (n : Int))) w) := by
  have H := Lib.hid (fun (W : World) (hb : Below w.heap.size w W) => h.to hb)
  clear h
  go_enter Try.func19, Try.ntmps19
  go_wp2_with fail
  go_loopw [1, 5] (fun v i wr => ∃ j : Nat, j ≤ n ∧ i = .int .i64 (j : Int) ∧ v = .int .i64 (1 + 2 * (j : Int)) ∧ Below w.heap.size w wr) (fun _ i _ => n - (intOf i).toNat)
  case atStart => exact ⟨0, by omega, rfl, rfl, Below.refl _ _⟩
  case round =>
    obtain ⟨j, hj, rfl, rfl, hB⟩ := hrel
    by_cases hlt : j < n
    · obtain ⟨g, o, rfl, hgr, c0, c1⟩ := (H.out wr hB).at_ (mksS_get hlt)
      have hl1 : (0 : Int) ≤ (j : Int) := by omega
      have hl2 : (j : Int) < (n : Int) := by omega
      replace c0 : wr.cell? ⟨g, o + j * 2, none⟩ = some (.int .i64 (1 + 2 * (j : Int))) := c0
      replace c1 : wr.cell? ⟨g, o + j * 2 + 1, none⟩ = some (.string (markT (2 + 2 * j))) := c1
      have hne : ((markT (2 + 2 * j)).toList != (markT (2 + 2 * j)).toList) = false := by simp
      have e1 : IntKind.i64.wrap (1 + 2 * (j : Int) + 1) = 2 + 2 * (j : Int) := (IntWalk.i64_in _ (by omega)).trans (by omega)
      have e2 : IntKind.i64.wrap (2 + 2 * (j : Int) + 1) = 3 + 2 * (j : Int) := (IntWalk.i64_in _ (by omega)).trans (by omega)
      have HM := Lib.hid (fun W => markText_any (2 + 2 * j) W (by omega) (by omega))
      push_cast at HM
      have hbz := Lib.hid hB
      go_wp2_with fail
      go_region_held3 (fun w' => w'.cell? ⟨g, o + j * 2 + 1, none⟩ = some (.string (markT (2 + 2 * j)))) (first | go_keep | exact keepE hb1 hgr c1) (first | (go_at_call 39; refine (HM.out _).mono ?_; rintro e w1 ⟨rfl, hb1⟩))
      have hb2 := bt hB (((Below.refl wr.heap.size wr).drew).trans hb1)
      clear hb1 c0 c1
      go_wp2_with fail
      go_roundw
      case rel => exact ⟨j + 1, by omega, by go_num, congrArg (fun z => Value.int .i64 z) (by push_cast; omega), hb2⟩
      case measure => simp [intOf]; omega
    · obtain rfl : j = n := by omega
      go_wp2_with fail
      go_ret
      exact ⟨rfl, hB⟩
end Go.Proofs.Ytnajjofaijpciaa
