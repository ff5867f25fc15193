/-
  Texts of the proof, one behind the other: each bears its own heading.
  Conditions: as the headings say.
-/
import Derived.Test.YtnajjofaijpciaaMg16
import Derived.Test.YtnajjofaijpciaaSegI
import Derived.Lib.AppendStr
/-
  Contracts: the reading of segments on both sides.
  Conditions: lists of at most 8192 bits.
-/
set_option linter.unusedVariables false
namespace Go.Proofs.Ytnajjofaijpciaa
open Go.RowKit Go.G8
theorem info_segment : (Try.prog.info? 24).map (fun i => (i.zero, i.size, i.bytes)) = some (some (.agg #[.int .i64 0, .string ⟨#[]⟩]), 2, 24) := by kernel_rfl
def SegsR (r : List SegV × Int) (w : World) (e : Ending) (w' : World) : Prop :=
  ∃ (a : Option Addr) (n c : Nat), e = .returned (.tuple #[.slice a n c, .int .i64 r.2]) ∧ n = r.1.length ∧ OwV 24 2 w.heap.size w' a n c (r.1.flatMap sgC) ∧ Below w.heap.size w w'
set_option maxHeartbeats 2000000 in
set_option maxRecDepth 20000 in
theorem l11Segments_any (a : Option Addr) (n c at_ : Nat) (xs : List Int) (w : World) (h : Rd .i64 w a n xs) (hb : Hid (∀ x ∈ xs, x = 0 ∨ x = 1)) (hn : n ≤ 8192) (hat : at_ ≤ n) :
    Calls Try.prog 36 #[.slice a n c, .int .i64 at_] w (SegsR (segsL xs (n + 1) at_ 0 []) w) := by
  obtain ⟨i0, hi, hz0, hz1, hz2⟩ := info_parts info_segment
  have hlen := h.len
  have HO := Lib.hid (OwV.empty 24 2 w.heap.size w (Nat.le_refl _))
  have HA := Lib.hid (Below.alloc (Below.refl w.heap.size w) (Nat.le_refl _) (.cells #[] 24))
  have H0 := Lib.hid h
  clear h
  obtain ⟨R, hR⟩ : ∃ R, segsL xs (n + 1) at_ 0 [] = R := ⟨_, rfl⟩
  rw [hR]
  have HR := Lib.hid hR.symm
  clear hR
  go_enter Try.func36, Try.ntmps36
  go_wp2_with fail
  go_loopw [1, 6, 7] (fun A o tt wr => ∃ (k tot f : Nat) (acc : List SegV) (a' : Option Addr) (c' : Nat), A = .int .i64 k ∧ o = .slice a' acc.length c' ∧ tt = .int .i64 tot ∧ Hid (R = segsL xs f k tot acc) ∧ n + 1 ≤ f + k ∧ sumG acc = tot ∧ tot ≤ 400 ∧ acc.length * 11 ≤ k ∧ k ≤ n ∧ OwV 24 2 w.heap.size wr a' acc.length c' (acc.flatMap sgC) ∧ Below w.heap.size w wr) (fun A _ _ _ => n - (intOf A).toNat)
  case atStart => exact ⟨at_, 0, n + 1, [], _, _, rfl, rfl, rfl, HR.out, by omega, rfl, by omega, by simp, hat, HO.out, HA.out⟩
  case round =>
    obtain ⟨k, tot, f, acc, a', c', rfl, rfl, rfl, HS, hf, hsum, htot, hacc, hk, hown, hB⟩ := hrel
    obtain ⟨f, rfl⟩ : ∃ g, f = g + 1 := ⟨f - 1, by omega⟩
    rw [segsL] at HS
    have ek : IntKind.i64.wrap ((k : Int) + 3) = (k : Int) + 3 := IntWalk.i64_in _ (by omega)
    by_cases h3 : k + 3 ≤ n
    · have hd3 : decide ((k : Int) + 3 ≤ (n : Int)) = true := by rw [decide_eq_true_eq]; omega
      have HNum := Lib.hid (l01Number_any a n c xs k 3 _ (H0.out.to hB) hb (by omega)  (by omega) (by omega) (by omega) (by omega))
      rw [Int.toNat_natCast, show (3 : Int).toNat = 3 from rfl] at HNum
      obtain ⟨N, hN⟩ : ∃ N, num (bpart xs k 3) = N := ⟨_, rfl⟩
      rw [hN] at HNum HS
      by_cases h0 : N = 0
      · have hr := Lib.hid (HS.out.trans (if_neg (fun hh => hh.2 h0)))
        have hn0 : (N != 0) = false := by simp [h0]
        go_wp2_with fail
        refine HNum.out.mono ?_
        rintro e w1 ⟨rfl, rfl⟩
        go_wp2_with fail
        go_ret2
        obtain rfl := hr.out
        exact ⟨_, _, _, rfl, rfl, hown, hB⟩
      · have hn0 : (N != 0) = true := by simp [h0]
        have HS := Lib.hid (HS.out.trans (if_pos ⟨by omega, h0⟩))
        have HRd := Lib.hid (l09Read_any a n c k xs _ (H0.out.to hB) hb (by omega) (by omega))
        obtain ⟨r, hr⟩ : ∃ r, rSeg xs k = r := ⟨_, rfl⟩
        rw [hr] at HRd HS
        rcases r with _ | ⟨m, t, nx⟩
        all_goals simp only [segRes] at HRd
        · have HS : Hid (R = ([], 6)) := HS
          go_wp2_with fail
          refine HNum.out.mono ?_
          rintro e w1 ⟨rfl, rfl⟩
          go_wp2_with fail
          refine HRd.out.mono ?_
          rintro e w1 ⟨rfl, hb1⟩
          go_wp2_with fail
          go_ret2
          obtain rfl := HS.out
          exact ⟨_, _, _, rfl, rfl, OwV.nil _ _ _ _, bt hB (bt hb1 (Below.alloc (Below.refl _ w1) (Nat.le_refl _) _))⟩
        · obtain ⟨b1, b2, b3, b4, b5⟩ := rSeg_bd hb.out hr
          have HS : Hid (R = if 400 < tot + t.length then ([], 3) else segsL xs f nx (tot + t.length) (acc ++ [⟨m, strOfNums t⟩])) := HS
          have hsz := strOfNums_size t
          obtain ⟨s, hs⟩ : ∃ s, strOfNums t = s := ⟨_, rfl⟩
          rw [hs] at HRd HS hsz
          have et : IntKind.i64.wrap ((tot : Int) + (s.size : Int)) = ((tot + s.size : Nat) : Int) := (IntWalk.i64_in _ (by omega)).trans (by omega)
          rw [← hsz] at HS
          have HSZ := Lib.hid hsz
          have hs255 : s.size ≤ 255 := by omega
          clear hsz
          by_cases hbig : 400 < tot + s.size
          · have hr := Lib.hid (HS.out.trans (if_pos hbig))
            go_wp2_with fail
            refine HNum.out.mono ?_
            rintro e w1 ⟨rfl, rfl⟩
            go_wp2_with fail
            refine HRd.out.mono ?_
            rintro e w1 ⟨rfl, hb1⟩
            go_wp2_with fail
            go_ret2
            obtain rfl := hr.out
            exact ⟨_, _, _, rfl, rfl, OwV.nil _ _ _ _, bt hB (bt hb1 (Below.alloc (Below.refl _ w1) (Nat.le_refl _) _))⟩
          · have hr := Lib.hid (HS.out.trans (if_neg hbig))
            go_wp2_with fail
            refine HNum.out.mono ?_
            rintro e w1 ⟨rfl, rfl⟩
            go_wp2_with fail
            refine HRd.out.mono ?_
            rintro e w1 ⟨rfl, hb1⟩
            have hxs := Lib.hid (show w1.heap.size + 1 = (w1.alloc (.cells #[.int .i64 m, .string s] 24)).heap.size by simp)
            have hs1 := hb1.size
            have hs2 := hB.size
            have hownA := (hown.keep hb1).alloc (.cells #[.int .i64 m, .string s] 24)
            have hBA := bt (bt hB hb1) (Below.alloc (Below.refl _ w1) (Nat.le_refl _) (.cells #[.int .i64 m, .string s] 24))
            have hone : ∀ u ∈ (#[.int .i64 m, .string s] : Array Value).toList, u.oneCell' = true := by
              intro u hu
              simp at hu
              rcases hu with rfl | rfl <;> rfl
            go_wp2_with (at_builtin; refine wpList_pushV _ rfl _ _ 33 rfl w.heap.size 24 _ i0 (.agg #[.int .i64 0, .string ⟨#[]⟩]) 2 24 Try.underlying33 hi hz0 hz1 hz2 rfl (by omega) (by omega) a' acc.length c' (acc.flatMap sgC) #[.int .i64 m, .string s] 1 rfl hownA (by exact congrArg (fun b => Value.slice (some ⟨b, 0, none⟩) 1 1) hxs.out) rfl hone (by omega) (by simp; omega) ?_; intro a5 c5 w5 hown5 hbel5)
            have hB5 := hBA.trans hbel5
            go_roundw
            case rel =>
              have el : (acc ++ [(⟨m, s⟩ : SegV)]).length = acc.length + 1 := by simp
              refine ⟨nx, tot + s.size, f, acc ++ [⟨m, s⟩], a5, c5, rfl, by rw [el], by go_num, hr, by omega, by rw [sumG_snoc, hsum], by omega, by rw [el]; omega, by omega, ?_, hB5⟩
              rw [el, List.flatMap_append]
              exact hown5
            case measure => simp [intOf]; omega
    · have hd3 : decide ((k : Int) + 3 ≤ (n : Int)) = false := by rw [decide_eq_false_iff_not]; omega
      have hr := Lib.hid (HS.out.trans (if_neg (fun hh => h3 (by omega))))
      go_wp2_with fail
      go_ret2
      obtain rfl := hr.out
      exact ⟨_, _, _, rfl, rfl, hown, hB⟩
set_option maxHeartbeats 2000000 in
set_option maxRecDepth 20000 in
theorem readSegments_any (a : Option Addr) (n c at_ : Nat) (xs : List Int) (w : World) (hc : n ≤ c) (hc2 : c ≤ 9223372036854775807) (h : Rd .i64 w a n xs) (hb : Hid (∀ x ∈ xs, x = 0 ∨ x = 1)) (hn : n ≤ 8192) (hat : at_ ≤ n) :
    Calls Try.prog 38 #[.slice a n c, .int .i64 at_] w (SegsR (segsL xs (n + 1) at_ 0 []) w) := by
  obtain ⟨i0, hi, hz0, hz1, hz2⟩ := info_parts info_segment
  have hlen := h.len
  have HO := Lib.hid (OwV.empty 24 2 w.heap.size w (Nat.le_refl _))
  have HA := Lib.hid (Below.alloc (Below.refl w.heap.size w) (Nat.le_refl _) (.cells #[] 24))
  have H0 := Lib.hid h
  clear h
  obtain ⟨R, hR⟩ : ∃ R, segsL xs (n + 1) at_ 0 [] = R := ⟨_, rfl⟩
  rw [hR]
  have HR := Lib.hid hR.symm
  clear hR
  go_enter Try.func38, Try.ntmps38
  go_wp2_with fail
  go_loopw [1, 6, 7] (fun A o tt wr => ∃ (k tot f : Nat) (acc : List SegV) (a' : Option Addr) (c' : Nat), A = .int .i64 k ∧ o = .slice a' acc.length c' ∧ tt = .int .i64 tot ∧ Hid (R = segsL xs f k tot acc) ∧ n + 1 ≤ f + k ∧ sumG acc = tot ∧ tot ≤ 400 ∧ acc.length * 11 ≤ k ∧ k ≤ n ∧ OwV 24 2 w.heap.size wr a' acc.length c' (acc.flatMap sgC) ∧ Below w.heap.size w wr) (fun A _ _ _ => n - (intOf A).toNat)
  case atStart => exact ⟨at_, 0, n + 1, [], _, _, rfl, rfl, rfl, HR.out, by omega, rfl, by omega, by simp, hat, HO.out, HA.out⟩
  case round =>
    obtain ⟨k, tot, f, acc, a', c', rfl, rfl, rfl, HS, hf, hsum, htot, hacc, hk, hown, hB⟩ := hrel
    obtain ⟨f, rfl⟩ : ∃ g, f = g + 1 := ⟨f - 1, by omega⟩
    rw [segsL] at HS
    have ek : IntKind.i64.wrap ((k : Int) + 3) = (k : Int) + 3 := IntWalk.i64_in _ (by omega)
    by_cases h3 : k + 3 ≤ n
    · have hd3 : decide ((k : Int) + 3 ≤ (n : Int)) = true := by rw [decide_eq_true_eq]; omega
      have HNum := Lib.hid (numberAt_any a n c xs k 3 _ (H0.out.to hB) hb (by omega) hc hc2  (by omega) (by omega) (by omega) (by omega))
      rw [Int.toNat_natCast, show (3 : Int).toNat = 3 from rfl] at HNum
      obtain ⟨N, hN⟩ : ∃ N, num (bpart xs k 3) = N := ⟨_, rfl⟩
      rw [hN] at HNum HS
      by_cases h0 : N = 0
      · have hr := Lib.hid (HS.out.trans (if_neg (fun hh => hh.2 h0)))
        have hn0 : (N != 0) = false := by simp [h0]
        go_wp2_with fail
        refine HNum.out.mono ?_
        rintro e w1 ⟨rfl, rfl⟩
        go_wp2_with fail
        go_ret2
        obtain rfl := hr.out
        exact ⟨_, _, _, rfl, rfl, hown, hB⟩
      · have hn0 : (N != 0) = true := by simp [h0]
        have HS := Lib.hid (HS.out.trans (if_pos ⟨by omega, h0⟩))
        have HRd := Lib.hid (readSegment_any a n c k xs _ hc hc2 (H0.out.to hB) hb (by omega) (by omega))
        obtain ⟨r, hr⟩ : ∃ r, rSeg xs k = r := ⟨_, rfl⟩
        rw [hr] at HRd HS
        rcases r with _ | ⟨m, t, nx⟩
        all_goals simp only [segRes] at HRd
        · have HS : Hid (R = ([], 6)) := HS
          go_wp2_with fail
          refine HNum.out.mono ?_
          rintro e w1 ⟨rfl, rfl⟩
          go_wp2_with fail
          refine HRd.out.mono ?_
          rintro e w1 ⟨rfl, hb1⟩
          go_wp2_with fail
          go_ret2
          obtain rfl := HS.out
          exact ⟨_, _, _, rfl, rfl, OwV.nil _ _ _ _, bt hB (bt hb1 (Below.alloc (Below.refl _ w1) (Nat.le_refl _) _))⟩
        · obtain ⟨b1, b2, b3, b4, b5⟩ := rSeg_bd hb.out hr
          have HS : Hid (R = if 400 < tot + t.length then ([], 3) else segsL xs f nx (tot + t.length) (acc ++ [⟨m, strOfNums t⟩])) := HS
          have hsz := strOfNums_size t
          obtain ⟨s, hs⟩ : ∃ s, strOfNums t = s := ⟨_, rfl⟩
          rw [hs] at HRd HS hsz
          have et : IntKind.i64.wrap ((tot : Int) + (s.size : Int)) = ((tot + s.size : Nat) : Int) := (IntWalk.i64_in _ (by omega)).trans (by omega)
          rw [← hsz] at HS
          have HSZ := Lib.hid hsz
          have hs255 : s.size ≤ 255 := by omega
          clear hsz
          by_cases hbig : 400 < tot + s.size
          · have hr := Lib.hid (HS.out.trans (if_pos hbig))
            go_wp2_with fail
            refine HNum.out.mono ?_
            rintro e w1 ⟨rfl, rfl⟩
            go_wp2_with fail
            refine HRd.out.mono ?_
            rintro e w1 ⟨rfl, hb1⟩
            go_wp2_with fail
            go_ret2
            obtain rfl := hr.out
            exact ⟨_, _, _, rfl, rfl, OwV.nil _ _ _ _, bt hB (bt hb1 (Below.alloc (Below.refl _ w1) (Nat.le_refl _) _))⟩
          · have hr := Lib.hid (HS.out.trans (if_neg hbig))
            go_wp2_with fail
            refine HNum.out.mono ?_
            rintro e w1 ⟨rfl, rfl⟩
            go_wp2_with fail
            refine HRd.out.mono ?_
            rintro e w1 ⟨rfl, hb1⟩
            have hxs := Lib.hid (show w1.heap.size + 1 = (w1.alloc (.cells #[.int .i64 m, .string s] 24)).heap.size by simp)
            have hs1 := hb1.size
            have hs2 := hB.size
            have hownA := (hown.keep hb1).alloc (.cells #[.int .i64 m, .string s] 24)
            have hBA := bt (bt hB hb1) (Below.alloc (Below.refl _ w1) (Nat.le_refl _) (.cells #[.int .i64 m, .string s] 24))
            have hone : ∀ u ∈ (#[.int .i64 m, .string s] : Array Value).toList, u.oneCell' = true := by
              intro u hu
              simp at hu
              rcases hu with rfl | rfl <;> rfl
            go_wp2_with (at_builtin; refine wpList_pushV _ rfl _ _ 33 rfl w.heap.size 24 _ i0 (.agg #[.int .i64 0, .string ⟨#[]⟩]) 2 24 Try.underlying33 hi hz0 hz1 hz2 rfl (by omega) (by omega) a' acc.length c' (acc.flatMap sgC) #[.int .i64 m, .string s] 1 rfl hownA (by exact congrArg (fun b => Value.slice (some ⟨b, 0, none⟩) 1 1) hxs.out) rfl hone (by omega) (by simp; omega) ?_; intro a5 c5 w5 hown5 hbel5)
            have hB5 := hBA.trans hbel5
            go_roundw
            case rel =>
              have el : (acc ++ [(⟨m, s⟩ : SegV)]).length = acc.length + 1 := by simp
              refine ⟨nx, tot + s.size, f, acc ++ [⟨m, s⟩], a5, c5, rfl, by rw [el], by go_num, hr, by omega, by rw [sumG_snoc, hsum], by omega, by rw [el]; omega, by omega, ?_, hB5⟩
              rw [el, List.flatMap_append]
              exact hown5
            case measure => simp [intOf]; omega
    · have hd3 : decide ((k : Int) + 3 ≤ (n : Int)) = false := by rw [decide_eq_false_iff_not]; omega
      have hr := Lib.hid (HS.out.trans (if_neg (fun hh => h3 (by omega))))
      go_wp2_with fail
      go_ret2
      obtain rfl := hr.out
      exact ⟨_, _, _, rfl, rfl, hown, hB⟩
end Go.Proofs.Ytnajjofaijpciaa
/-
  Contracts: the texts of segments one after the other. A step of a walk: append of a string to bytes.
  Conditions: named at each.
-/
set_option linter.unusedVariables false
namespace Go.G8
open Go.RowKit
/-- 'append(out, s...)': out is owned, s is a string. -/
theorem wpList_pushStr {P : Program} (w : World) {ops : Array Oper} {rest : List Oper} {o : Oper} {act : Act} {Q : Exit → Act → World → Prop} (hgd : o.guard = none) (s x : Operand) (t u : TypeId)
    (ho : o.op = .call { callee := .builtin .append, args := #[s, x], argTypes := #[t, u] })
    (B : Nat) (E : TypeId) (i : TypeInfo) (ht : P.underlying t = some (.slice E)) (hu : P.underlying u = some .string) (hi : P.info? E = some i) (hz : i.zero = some (.int .u8 0)) (h1 : i.size = 1) (h2 : i.bytes = 1)
    (a : Option Addr) (n c : Nat) (xs : List Int) (b : ByteArray) (hs : act.eval s = .slice a n c) (hown : Ow .u8 E B w a n c xs) (hx : act.eval x = .string b)
    (hn : n + b.size ≤ 1000000000) (hB : B ≤ w.heap.size)
    (hK : ∀ a' c' w', Ow .u8 E B w' a' (n + b.size) c' (xs ++ b.data.toList.map (fun b => (b.toNat : Int))) → Below B w w' → wpList P ops Q rest (act.put o.dst (.slice a' (n + b.size) c')) w') :
    wpList P ops Q (o :: rest) act w := by
  refine Go.Lib.wpList_append_own_string _ hgd s x t u ho B E i ht hu hi hz h1 h2 _ n _ hs hown b hx (by unfold maxLen; omega) (by omega) hB ?_
  intro v' w' hown' hg _
  obtain ⟨a', c', rfl⟩ := own_slice hown'
  refine hK a' c' w' ?_ ?_
  · have e : ints .u8 (xs ++ b.data.toList.map (fun b => (b.toNat : Int))) = ints .u8 xs ++ Go.Lib.strCells b := by
      unfold ints Go.Lib.strCells
      rw [List.map_append, List.map_map]
      rfl
    unfold Ow
    rw [e]
    exact hown'
  · refine (Below.refl B w).grown hg hB ?_
    intro k hk
    exact (World.ownsRow.lt hown k hk).1
end Go.G8
namespace Go.Proofs.Ytnajjofaijpciaa
open Go.RowKit Go.G8
/-- The bytes of texts one after the other. -/
def joinI (l : List SegV) : List Int := l.flatMap (fun p => strI p.tx)
theorem strI_length' (s : ByteArray) : (strI s).length = s.size := by
  unfold strI
  rw [List.length_map]
  rfl
theorem joinI_len (l : List SegV) : (joinI l).length = sumG l := by
  induction l with
  | nil => rfl
  | cons p l ih =>
    show (strI p.tx ++ joinI l).length = p.tx.size + sumG l
    rw [List.length_append, ih, strI_length']
theorem joinI_snoc (l : List SegV) (p : SegV) : joinI (l ++ [p]) = joinI l ++ strI p.tx := by simp [joinI]
theorem sumG_take (l : List SegV) (k : Nat) : sumG (l.take k) ≤ sumG l := by
  have h : l = l.take k ++ l.drop k := (List.take_append_drop k l).symm
  have h2 : sumG l = sumG (l.take k) + sumG (l.drop k) := by
    conv => lhs; rw [h]
    simp only [sumG, List.map_append, List.sum_append]
  omega
theorem gtake_snoc {l : List SegV} {k : Nat} {p : SegV} (h : l[k]? = some p) : l.take (k + 1) = l.take k ++ [p] := by
  rw [List.take_add_one, h]
  rfl
theorem strOf_app (xs : List Int) (s : ByteArray) : strOfNums (xs ++ strI s) = strOfNums xs ++ s := by
  apply ByteArray.ext
  rw [ByteArray.data_append]
  have e : List.map (fun b : UInt8 => UInt8.ofNat ((b.toNat : Int)).toNat) s.data.toList = s.data.toList := by
    conv => rhs; rw [← List.map_id s.data.toList]
    apply List.map_congr_left
    intro b _
    simp
  unfold strOfNums strI
  rw [List.map_append, List.map_map]
  show (_ ++ List.map (fun b : UInt8 => UInt8.ofNat ((b.toNat : Int)).toNat) s.data.toList).toArray = _
  rw [e]
  simp
set_option maxHeartbeats 1000000 in
theorem l11Join_any (a : Option Addr) (n c : Nat) (l : List SegV) (w : World) (h : RdG w a n l) (hs : sumG l ≤ 400) (hn : n ≤ 8192) :
    Calls Try.prog 40 #[.slice a n c] w (Ret (.string (strOfNums (joinI l))) w) := by
  have hlen := h.len
  have H := Lib.hid h
  clear h
  go_enter Try.func40, Try.ntmps40
  go_wp2_with fail
  go_loopw [3, 4] (fun o i wr => ∃ k : Nat, k ≤ n ∧ i = .int .i64 k ∧ o = .string (strOfNums (joinI (l.take k))) ∧ Below w.heap.size w wr) (fun _ i _ => n - (intOf i).toNat)
  case atStart => exact ⟨0, Nat.zero_le _, rfl, rfl, Below.refl _ _⟩
  case round =>
    obtain ⟨k, hk, rfl, rfl, hB⟩ := hrel
    by_cases hlt : k < n
    · obtain ⟨p, hp⟩ : ∃ p, l[k]? = some p := ⟨_, List.getElem?_eq_getElem (by omega)⟩
      obtain ⟨b, o, rfl, hbw, c0, c1⟩ := (RdG.to H.out hB).at_ hp
      have hd : decide ((k : Int) < (n : Int)) = true := by rw [decide_eq_true_eq]; omega
      have HT := Lib.hid (gtake_snoc hp)
      have hsz := sumG_take l (k + 1)
      rw [HT.out, sumG_snoc, ← joinI_len, ← strOfNums_size] at hsz
      have HJ := Lib.hid (show strOfNums (joinI (l.take (k + 1))) = strOfNums (joinI (l.take k)) ++ p.tx by rw [HT.out, joinI_snoc, strOf_app])
      obtain ⟨S, hS⟩ : ∃ S, strOfNums (joinI (l.take k)) = S := ⟨_, rfl⟩
      rw [hS] at hsz HJ ⊢
      have hb : ¬ 9223372036854775807 < S.size + p.tx.size := by omega
      go_wp2_with fail
      go_roundw
      case rel => exact ⟨k + 1, by omega, by go_num, by rw [HJ.out], hB⟩
      case measure => simp [intOf]; omega
    · obtain rfl : k = n := by omega
      have hd : decide ((k : Int) < (k : Int)) = false := by simp
      have hr := Lib.hid (show strOfNums (joinI (l.take k)) = strOfNums (joinI l) by rw [List.take_of_length_le (by omega)])
      rw [hr.out]
      go_wp2_with fail
      go_ret
      exact ⟨rfl, hB⟩
set_option maxHeartbeats 1000000 in
theorem joined_any (a : Option Addr) (n c : Nat) (l : List SegV) (w : World) (h : RdG w a n l) (hs : sumG l ≤ 400) (hn : n ≤ 8192) :
    Calls Try.prog 41 #[.slice a n c] w (Ret (.string (strOfNums (joinI l))) w) := by
  have hlen := h.len
  obtain ⟨i0, hi, hz0, hz1, hz2⟩ := info_parts info_uint8
  have HO := Lib.hid (Ow.empty .u8 5 w.heap.size w (Nat.le_refl _))
  have HA := Lib.hid (Below.alloc (Below.refl w.heap.size w) (Nat.le_refl _) (.cells #[] 5))
  have H := Lib.hid h
  clear h
  go_enter Try.func41, Try.ntmps41
  go_wp2_with fail
  go_loopw [3, 9] (fun o i wr => ∃ (k : Nat) (a' : Option Addr) (c' : Nat), k ≤ n ∧ i = .int .i64 k ∧ o = .slice a' (sumG (l.take k)) c' ∧ Ow .u8 5 w.heap.size wr a' (sumG (l.take k)) c' (joinI (l.take k)) ∧ Below w.heap.size w wr) (fun _ i _ => n - (intOf i).toNat)
  case atStart => exact ⟨0, _, _, Nat.zero_le _, rfl, rfl, HO.out, HA.out⟩
  case round =>
    obtain ⟨k, a', c', hk, rfl, rfl, hown, hB⟩ := hrel
    have hs2 := hB.size
    by_cases hlt : k < n
    · obtain ⟨p, hp⟩ : ∃ p, l[k]? = some p := ⟨_, List.getElem?_eq_getElem (by omega)⟩
      obtain ⟨b, o, rfl, hbw, c0, c1⟩ := (RdG.to H.out hB).at_ hp
      have hd : decide ((k : Int) < (n : Int)) = true := by rw [decide_eq_true_eq]; omega
      have HT := Lib.hid (gtake_snoc hp)
      have hsz := sumG_take l (k + 1)
      rw [HT.out, sumG_snoc] at hsz
      obtain ⟨m, s⟩ := p
      have hownA := hown.keep (Below.alloc (Below.refl wr.heap.size wr) (Nat.le_refl _) (.cells #[.int .i64 m, .string s] 24))
      have hBA := bt hB (Below.alloc (Below.refl _ wr) (Nat.le_refl _) (.cells #[.int .i64 m, .string s] 24))
      have HJ := Lib.hid (show joinI (l.take (k + 1)) = joinI (l.take k) ++ strI s by rw [HT.out, joinI_snoc])
      have HZ := Lib.hid (show sumG (l.take (k + 1)) = sumG (l.take k) + s.size by rw [HT.out, sumG_snoc])
      obtain ⟨Z, hZ⟩ : ∃ Z, sumG (l.take k) = Z := ⟨_, rfl⟩
      rw [hZ] at hownA HZ hown ⊢
      have hz3 : Z + s.size ≤ 400 := by rw [hZ] at hsz; exact Nat.le_trans hsz hs
      go_wp2_with (at_builtin; refine wpList_pushStr _ rfl _ _ 49 9 rfl w.heap.size 5 i0 Try.underlying49 Try.underlying9 hi hz0 hz1 hz2 a' Z c' _ s rfl hownA rfl (by omega) (by simp; omega) ?_; intro a5 c5 w5 hown5 hbel5)
      have hB5 := hBA.trans hbel5
      go_roundw
      case rel => exact ⟨k + 1, a5, c5, by omega, by go_num, by rw [HZ.out], by rw [HZ.out, HJ.out]; exact hown5, hB5⟩
      case measure => simp [intOf]; omega
    · obtain rfl : k = n := by omega
      have hd : decide ((k : Int) < (k : Int)) = false := by simp
      rw [List.take_of_length_le (by omega)] at hown
      have hcv := conv_str (P := Try.prog) hown 49 9 5 Try.underlying49 Try.underlying5 Try.underlying9
      rw [List.take_of_length_le (by omega)]
      go_wp2_with fail
      go_ret
      exact ⟨rfl, hB⟩
end Go.Proofs.Ytnajjofaijpciaa
