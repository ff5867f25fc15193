/-
  Contracts: all patterns, by the reference.
  Conditions: at most eight parts, sums of at most eleven.
-/
import Derived.Test.YtckmenjbblgiiaaProg
import Derived.Test.YtckmenjbblgiiaaBase
import Derived.Test.YtckmenjbblgiiaaRowsF
import Derived.Test.YtckmenjbblgiiaaLib
set_option linter.unusedVariables false
namespace Go.Proofs.Ytckmenjbblgiiaa
open Go.RowKit Go.G8
/-- All lists of k numbers from 1 on with a sum, in lexicographic order. -/
def pats : Nat → Nat → List (List Int)
  | 0, _ => []
  | 1, s => [[(s : Int)]]
  | k + 2, s => (List.range (s - (k + 1))).flatMap (fun i => (pats (k + 1) (s - (i + 1))).map (fun r => ((i + 1 : Nat) : Int) :: r))
/-- The lists that begin with one of the numbers 1 to f. -/
def patsTo (k s f : Nat) : List (List Int) := (List.range f).flatMap (fun i => (pats (k + 1) (s - (i + 1))).map (fun r => ((i + 1 : Nat) : Int) :: r))
theorem pats_is (k s : Nat) : pats (k + 2) s = patsTo k s (s - (k + 1)) := rfl
theorem patsTo_succ (k s f : Nat) : patsTo k s (f + 1) = patsTo k s f ++ (pats (k + 1) (s - (f + 1))).map (fun r => ((f + 1 : Nat) : Int) :: r) := by
  unfold patsTo
  rw [List.range_succ, List.flatMap_append]
  simp
theorem pats_len (k s : Nat) (hk : k ≤ 8) (hs : s ≤ 11) : (pats k s).length ≤ 1000 := by
  have : ((List.range 9).all fun k => (List.range 12).all fun s => decide ((pats k s).length ≤ 1000)) = true := by decide +kernel
  have h1 := List.all_eq_true.1 this k (by simp; omega)
  have h2 := List.all_eq_true.1 h1 s (by simp; omega)
  simpa using h2
theorem pats_parts (k s : Nat) (hk : k ≤ 8) (hs : s ≤ 11) (hks : k ≤ s) : ∀ r ∈ pats k s, r.length = k ∧ ∀ x ∈ r, 1 ≤ x ∧ x ≤ 11 := by
  have : ((List.range 9).all fun k => (List.range 12).all fun s => decide (s < k) || (pats k s).all fun r => decide (r.length = k) && r.all fun x => decide (1 ≤ x ∧ x ≤ 11)) = true := by decide +kernel
  intro r hr
  have h1 := List.all_eq_true.1 this k (by simp; omega)
  have h2 := List.all_eq_true.1 h1 s (by simp; omega)
  rw [decide_eq_false (by omega), Bool.false_or] at h2
  have h3 := List.all_eq_true.1 h2 r hr
  rw [Bool.and_eq_true] at h3
  exact ⟨by simpa using h3.1, fun x hx => by simpa using List.all_eq_true.1 h3.2 x hx⟩
/-- A list of lists: the outer row holds the inner rows' slices vs; all lie from block D on. -/
def PRV (D : Nat) (w : World) (a : Option Addr) (n c : Nat) (vs : List Value) (xss : List (List Int)) : Prop :=
  OwV 25 1 D w a n c vs ∧ vs.length = xss.length ∧ ∀ (j : Nat) (xs : List Int), xss[j]? = some xs → ∃ (b : Option Addr) (m d : Nat), vs[j]? = some (.slice b m d) ∧ Ow .i64 2 D w b m d xs
theorem types_apart {K : IntKind} {sz D D' n c m d : Nat} {w : World} {a b : Option Addr} {vs : List Value} {xs : List Int} (h : OwV 25 sz D w a n c vs) (k : Ow K 2 D' w b m d xs) : Apart b a := by
  intro g h1 h2
  rcases h.2 with ⟨hv, rfl⟩ | ⟨g1, cap, cur, hv, _, e1, _⟩
  · injection hv with hv
    subst hv
    simp [blk] at h2
  · rcases k.2 with ⟨hv2, rfl⟩ | ⟨g2, cap2, cur2, hv2, _, e2, _⟩
    · injection hv2 with hv2
      subst hv2
      simp [blk] at h1
    · injection hv with hv
      injection hv2 with hv2
      subst hv hv2
      simp [blk] at h1 h2
      subst h1
      subst h2
      rw [e1] at e2
      injection e2 with e2
      injection e2 with _ e2
      exact absurd e2 (by decide)
theorem prv_len {D n c : Nat} {w : World} {a : Option Addr} {vs : List Value} {xss : List (List Int)} (h : PRV D w a n c vs xss) : xss.length = n := by
  obtain ⟨h1, h2, -⟩ := h
  have := h1.len
  omega
theorem prv_keep {D n c : Nat} {w w' : World} {a : Option Addr} {vs : List Value} {xss : List (List Int)} (h : PRV D w a n c vs xss) (hb : Below w.heap.size w w') : PRV D w' a n c vs xss := by
  obtain ⟨h1, h2, h3⟩ := h
  refine ⟨h1.keep hb, h2, fun j xs hj => ?_⟩
  obtain ⟨b, m, d, e, ho⟩ := h3 j xs hj
  exact ⟨b, m, d, e, ho.keep hb⟩
theorem prv_more {D D' n c : Nat} {w : World} {a : Option Addr} {vs : List Value} {xss : List (List Int)} (h : PRV D w a n c vs xss) (hD : D' ≤ D) : PRV D' w a n c vs xss := by
  obtain ⟨h1, h2, h3⟩ := h
  refine ⟨h1.more hD, h2, fun j xs hj => ?_⟩
  obtain ⟨b, m, d, e, ho⟩ := h3 j xs hj
  exact ⟨b, m, d, e, ho.more hD⟩
/-- Another outer row has grown. -/
theorem prv_sep {D D' n c n' c' : Nat} {w w' : World} {a a' : Option Addr} {vs us : List Value} {xss : List (List Int)} (h : PRV D w a n c vs xss) (k : OwV 25 1 D' w a' n' c' us) (hg : w.grownBy w' (blk a')) (hne : Apart a a') : PRV D w' a n c vs xss := by
  obtain ⟨h1, h2, h3⟩ := h
  refine ⟨h1.sep hg hne, h2, fun j xs hj => ?_⟩
  obtain ⟨b, m, d, e, ho⟩ := h3 j xs hj
  exact ⟨b, m, d, e, ho.sep hg (fun g g1 g2 => types_apart k ho g g1 g2)⟩
/-- A new row at the end. -/
theorem prv_push {D n c n' c' : Nat} {w w' : World} {a a' : Option Addr} {xss : List (List Int)} {vs : List Value} (h : PRV D w a n c vs xss) {b : Option Addr} {m d : Nat} {ys : List Int} (hy : Ow .i64 2 D w b m d ys)
    (hg : w.grownBy w' (blk a)) (hn : OwV 25 1 D w' a' n' c' (vs ++ [.slice b m d])) : PRV D w' a' n' c' (vs ++ [.slice b m d]) (xss ++ [ys]) := by
  obtain ⟨h1, h2, h3⟩ := h
  refine ⟨hn, by simp [h2], fun j xs hj => ?_⟩
  by_cases hlt : j < xss.length
  · rw [List.getElem?_append_left hlt] at hj
    obtain ⟨b1, m1, d1, e, ho⟩ := h3 j xs hj
    exact ⟨b1, m1, d1, by rw [List.getElem?_append_left (by omega)]; exact e, ho.sep hg (fun g g1 g2 => types_apart h1 ho g g1 g2)⟩
  · have hj' : j = xss.length := by
      have := (List.getElem?_eq_some_iff.1 hj).1
      simp at this
      omega
    subst hj'
    simp at hj
    subst hj
    exact ⟨b, m, d, by rw [← h2]; simp, hy.sep hg (fun g g1 g2 => types_apart h1 hy g g1 g2)⟩
theorem prv_alloc {D n c : Nat} {w : World} {a : Option Addr} {vs : List Value} {xss : List (List Int)} (h : PRV D w a n c vs xss) (o : Obj) : PRV D (w.alloc o) a n c vs xss := prv_keep h (Below.alloc (Below.refl _ _) (Nat.le_refl _) _)
theorem owV_lit {E sz D m : Nat} (w : World) (A : Array Value) (hA : A.size = m * sz) (hD : D ≤ w.heap.size) (hm : m ≤ 1000000) : OwV E sz D (w.alloc (.cells A E)) (some ⟨w.heap.size, 0, none⟩) m m A.toList :=
  World.ownsRow_lit (base := D) (e := E) (size := sz) w A m hD (by unfold maxLen; omega) hA
theorem take_snoc_rows {xss : List (List Int)} {k : Nat} {x : List Int} (hx : xss[k]? = some x) : xss.take (k + 1) = xss.take k ++ [x] := by
  obtain ⟨hk, rfl⟩ := List.getElem?_eq_some_iff.1 hx
  exact List.take_succ_eq_append_getElem hk
def RetPats (xss : List (List Int)) (w : World) (e : Ending) (w' : World) : Prop :=
  ∃ (a : Option Addr) (n c : Nat) (vs : List Value), e = .returned (.slice a n c) ∧ PRV w.heap.size w' a n c vs xss ∧ Below w.heap.size w w'
theorem info_slice : (Try.prog.info? 25).map (fun i => (i.zero, i.size, i.bytes)) = some (some (.slice none 0 0), 1, 24) := by kernel_rfl
set_option maxHeartbeats 1000000 in
set_option maxRecDepth 20000 in
theorem l17Patterns_one (s : Nat) (w : World) (hs : s ≤ 11) :
    Calls Try.prog 94 #[.int .i64 1, .int .i64 s] w (RetPats (pats 1 s) w) := by
  have ho := Ow.lit (K := .i64) (E := 2) (xs := [(s : Int)]) (B := w.heap.size) w (Nat.le_refl _) (by simp)
  have hb := Below.alloc (Below.refl w.heap.size w) (Nat.le_refl _) (.cells #[.int .i64 (s : Int)] 2)
  have hB := hb.alloc hb.size (.cells #[.slice (some ⟨w.heap.size, 0, none⟩) 1 1] 25)
  have hv := owV_lit (E := 25) (sz := 1) (D := w.heap.size) (m := 1) (w.alloc (.cells #[.int .i64 (s : Int)] 2)) #[.slice (some ⟨w.heap.size, 0, none⟩) 1 1] rfl hb.size (by omega)
  have hq := Lib.hid (show PRV w.heap.size ((w.alloc (.cells #[.int .i64 (s : Int)] 2)).alloc (.cells #[.slice (some ⟨w.heap.size, 0, none⟩) 1 1] 25)) (some ⟨w.heap.size + 1, 0, none⟩) 1 1 [.slice (some ⟨w.heap.size, 0, none⟩) 1 1] [[(s : Int)]] from
    ⟨by simpa using hv, rfl, fun j xs hj => by
      match j, hj with
      | 0, hj =>
        simp at hj
        subst hj
        exact ⟨_, _, _, rfl, ho.alloc _⟩⟩)
  clear hv ho
  go_enter Try.func94, Try.ntmps94
  go_wp2_with fail
  go_ret
  exact ⟨_, _, _, _, rfl, hq.out, hB⟩
set_option maxHeartbeats 400000 in
set_option maxRecDepth 20000 in
theorem l17Patterns_step (k s : Nat) (p t : Int) (hp : p = (k : Int) + 2) (ht : t = (s : Int)) (w : World) (hk : k + 2 ≤ 8) (hs : s ≤ 11) (hks : k + 2 ≤ s)
    (IH : ∀ (t : Nat) (W : World), t ≤ 11 → k + 1 ≤ t → Calls Try.prog 94 #[.int .i64 ((k + 1 : Nat) : Int), .int .i64 t] W (RetPats (pats (k + 1) t) W)) :
    Calls Try.prog 94 #[.int .i64 p, .int .i64 t] w (RetPats (pats (k + 2) s) w) := by
  obtain ⟨i0, hi, hz0, hz1, hz2⟩ := info_parts info_int64
  obtain ⟨i1, hj, hy0, hy1, hy2⟩ := info_parts info_slice
  obtain ⟨F, hF⟩ : ∃ F, s = F + (k + 1) := ⟨s - (k + 1), by omega⟩
  subst hF
  have d1 : (p == 1) = false := by rw [beq_eq_false_iff_ne]; omega
  have ht1 : t ≤ (F : Int) + (k + 1) := by omega
  have ht2 : (F : Int) + (k + 1) ≤ t := by omega
  have hp1 : p ≤ (k : Int) + 2 := by omega
  have hp2 : (k : Int) + 2 ≤ p := by omega
  clear ht hp
  have hres := Lib.hid (show pats (k + 2) (F + (k + 1)) = patsTo k (F + (k + 1)) F by rw [pats_is]; congr 1; omega)
  have hO0 : PRV w.heap.size (w.alloc (.cells #[] 25)) (some ⟨w.heap.size, 0, none⟩) 0 0 [] [] := ⟨by simpa using owV_lit (E := 25) (sz := 1) (D := w.heap.size) (m := 0) w #[] rfl (Nat.le_refl _) (by omega), rfl, fun j xs hj => by simp at hj⟩
  have hal : Below w.heap.size w (w.alloc (.cells #[] 25)) := Below.alloc (Below.refl _ _) (Nat.le_refl _) _
  go_enter Try.func94, Try.ntmps94
  go_wp2_with fail
  go_loopw [5, 6] (fun l fi wr => ∃ (f : Nat) (a : Option Addr) (n c : Nat) (vs : List Value), f ≤ F ∧ fi = .int .i64 ((f : Int) + 1) ∧ l = .slice a n c ∧ n ≤ 1000 * f ∧ PRV w.heap.size wr a n c vs (patsTo k (F + (k + 1)) f) ∧ Below w.heap.size w wr) (fun _ fi _ => F + 1 - (intOf fi).toNat)
  case atStart => exact ⟨0, _, 0, 0, [], by omega, by go_num, rfl, by omega, hO0, hal⟩
  case round =>
    clear hO0 hal
    obtain ⟨f, a, n, c, vs, hf, rfl, rfl, hn, hP, hB⟩ := hrel
    by_cases hlt : f < F
    · have e1 : decide ((f : Int) + 1 ≤ (F : Int)) = true := by simp; omega
      have hsucc := Lib.hid (patsTo_succ k (F + (k + 1)) f)
      have hlen := pats_len (k + 1) (F + (k + 1) - (f + 1)) (by omega) (by omega)
      have hparts := Lib.hid (pats_parts (k + 1) (F + (k + 1) - (f + 1)) (by omega) (by omega) (by omega))
      have HIH := Lib.hid (fun W => IH (F + (k + 1) - (f + 1)) W (by omega) (by omega))
      obtain ⟨Q, hQ⟩ : ∃ Q, pats (k + 1) (F + (k + 1) - (f + 1)) = Q := ⟨_, rfl⟩
      rw [hQ] at hsucc hlen hparts HIH
      clear hQ
      go_wp2_with fail
      rw [show p - 1 = ((k + 1 : Nat) : Int) by omega, show t - ((f : Int) + 1) = ((F + (k + 1) - (f + 1) : Nat) : Int) by omega]
      refine (HIH.out _).mono ?_
      rintro e w2 ⟨a2, n2, c2, us, rfl, hP2, hb2⟩
      have hn2 := prv_len hP2
      have hB2 := bt hB hb2
      have hap : Apart a2 a := fun g g1 g2 => by have := (hP2.1.lt g g1).1; have := (hP.1.lt g g2).2; omega
      have hPk := prv_keep hP hb2
      have hP2k := prv_more hP2 hB.size
      clear hP hP2 hb2 hB HIH
      go_wp2_with fail
      go_loopw [5, 8] (fun l ii wr => ∃ (i : Nat) (a' : Option Addr) (n' c' : Nat) (vs' : List Value), i ≤ n2 ∧ ii = .int .i64 (i : Int) ∧ l = .slice a' n' c' ∧ n' ≤ 1000 * f + i ∧ PRV w.heap.size wr a' n' c' vs' (patsTo k (F + (k + 1)) f ++ (Q.take i).map (fun r => ((f + 1 : Nat) : Int) :: r)) ∧ PRV w.heap.size wr a2 n2 c2 us Q ∧ Apart a2 a' ∧ Below w.heap.size w wr) (fun _ ii _ => n2 - (intOf ii).toNat)
      case atStart => exact ⟨0, _, _, _, vs, by omega, rfl, rfl, by omega, by simpa using hPk, hP2k, hap, hB2⟩
      case round =>
        clear hPk hP2k hap hB2
        obtain ⟨i, a', n', c', vs', hi2, rfl, rfl, hn', hP, hR, hap, hB⟩ := hrel
        by_cases hlt2 : i < n2
        · have b1 : (0 : Int) ≤ (i : Int) := by omega
          have b2 : (i : Int) < (n2 : Int) := by omega
          obtain ⟨xs, hxs⟩ : ∃ xs, Q[i]? = some xs := ⟨_, List.getElem?_eq_getElem (by omega)⟩
          obtain ⟨b, m, d, hus, hox⟩ := hR.2.2 i xs hxs
          have hpx := hparts.out xs (List.mem_of_getElem? hxs)
          have hm := hox.len
          obtain ⟨g, rfl, hg1, hg2⟩ := hR.1.form (by omega)
          have hcell := hR.1.cellAt hus
          have hrx := hox.rd (fun x hx => by have := hpx.2 x hx; show -9223372036854775808 ≤ x ∧ x ≤ 9223372036854775807; omega)
          have hBr := hB.size
          have hal := Below.alloc (Below.refl wr.heap.size wr) (Nat.le_refl _) (.cells #[.int .i64 ((f : Int) + 1)] 2)
          have hlit := Ow.lit (K := .i64) (E := 2) (xs := [((f : Int) + 1)]) (B := wr.heap.size) wr (Nat.le_refl _) (by simp)
          have hrx2 := hrx.to hal
          have hsn := Lib.hid (take_snoc_rows hxs)
          clear hox hrx
          go_wp2_with (first | (at_builtin; refine wpList_appendAll .i64 _ rfl _ _ 25 rfl wr.heap.size 2 i0 8 Try.underlying25 hi hz0 hz1 hz2 (by omega) _ _ _ [((f : Int) + 1)] b m d xs rfl hlit rfl hrx2 (by omega) (by simp) ?_; intro a5 n5 c5 w5 hown5 hbel5; have hb5 := hal.trans hbel5) | (at_builtin; refine wpList_pushF _ rfl _ _ 86 rfl w.heap.size 25 _ i1 (.slice none 0 0) 1 24 Try.underlying86 hj hy0 hy1 hy2 rfl (by decide) (by omega) a' n' c' vs' #[.slice a5 n5 c5] 1 rfl (hP.1.keep hb5) rfl rfl (by intro u hu; simp at hu; subst hu; rfl) (by omega) (by omega) (Nat.le_trans hBr hb5.size) ?_; intro a6 c6 w6 hown6 hg6 hbl6))
          have hal5 := Below.alloc (Below.refl w5.heap.size w5) (Nat.le_refl _) (.cells #[.slice a5 n5 c5] 25)
          have hb6 := hb5.trans (hal5.mono hb5.size)
          have hP5 := prv_keep hP hb6
          have hR5 := prv_keep hR hb6
          have hfin := prv_push hP5 ((hown5.keep hal5).more hBr) hg6 hown6
          have hrest := prv_sep hR5 hP5.1 hg6 hap
          have hap6 : Apart (some ⟨g, 0, none⟩) a6 := fun q g1 g2 => by
            rcases hbl6 with h6 | h6
            · exact hap q g1 (by rw [← h6]; exact g2)
            · rw [h6] at g2
              injection g2 with g2
              simp [blk] at g1
              have := hb5.size
              omega
          have hB6 : Below w.heap.size w w6 := (hB.trans (hb6.mono hBr)).grown hg6 (Nat.le_trans hBr hb6.size) (fun q e => (hP.1.lt q e).1)
          clear hP hR hP5 hR5 hb5 hb6 hal5 hg6 hown6 hown5 hbel5 hlit hrx2 hal hcell
          go_roundw
          case rel => exact ⟨i + 1, a6, n' + 1, c6, _, by omega, by go_num, rfl, by omega, by rw [hsn.out, List.map_append, ← List.append_assoc]; simpa using hfin, hrest, hap6, hB6⟩
          case measure => simp [intOf]; omega
        · obtain rfl : i = n2 := by omega
          have htk : Q.take i = Q := List.take_of_length_le (by omega)
          rw [htk, ← hsucc.out] at hP
          go_wp2_with fail
          go_roundw
          case rel => exact ⟨f + 1, _, _, _, vs', by omega, by go_num, rfl, by omega, hP, hB⟩
          case measure => simp [intOf]; omega
    · obtain rfl : f = F := by omega
      have e1 : decide ((f : Int) + 1 ≤ (f : Int)) = false := by simp; omega
      go_wp2_with fail
      go_ret
      exact ⟨_, _, _, _, rfl, by rw [hres.out]; exact hP, hB⟩
end Go.Proofs.Ytckmenjbblgiiaa
