/-
  Contracts: whether a family is valid, by the reference and by the program.
  Conditions: none.
-/
import Derived.Test.YtckmenjbblgiiaaFamA
import Derived.Test.YtckmenjbblgiiaaGridD
import Derived.Test.YtckmenjbblgiiaaPlaceB
import Derived.Test.YtckmenjbblgiiaaFieldOf
import Derived.Test.YtckmenjbblgiiaaFoundA
import Derived.Test.YtckmenjbblgiiaaDrawS
set_option linter.unusedVariables false
namespace Go.Proofs.Ytckmenjbblgiiaa
open Go.RowKit Go.G8
/-- The cells of a family. -/
def famA (s : ByteArray) (K p q y : Int) (sz : Value) (co : Int) (lv : Value) : Array Value := #[.string s, .int .i64 K, .int .i64 p, .int .i64 q, .int .i64 y, sz, .int .i64 co, lv]
def Fam8 (G : Nat) (s : ByteArray) (K p q y : Int) (sz : Value) (co : Int) (lv : Value) (w : World) : Prop :=
  w.cell? ⟨G, 0, none⟩ = some (.string s) ∧ w.cell? ⟨G, 1, none⟩ = some (.int .i64 K) ∧ w.cell? ⟨G, 2, none⟩ = some (.int .i64 p) ∧ w.cell? ⟨G, 3, none⟩ = some (.int .i64 q) ∧ w.cell? ⟨G, 4, none⟩ = some (.int .i64 y) ∧ w.cell? ⟨G, 5, none⟩ = some sz ∧ w.cell? ⟨G, 6, none⟩ = some (.int .i64 co) ∧ w.cell? ⟨G, 7, none⟩ = some lv
theorem fam_new (w : World) (s : ByteArray) (K p q y : Int) (sz : Value) (co : Int) (lv : Value) (T : TypeId) :
    Fam8 w.heap.size s K p q y sz co lv (w.alloc (.cells #[.string s, .int .i64 K, .int .i64 p, .int .i64 q, .int .i64 y, sz, .int .i64 co, lv] T)) := by
  have h : ∀ i, (w.alloc (.cells #[.string s, .int .i64 K, .int .i64 p, .int .i64 q, .int .i64 y, sz, .int .i64 co, lv] T)).cell? ⟨w.heap.size, i, none⟩ = (#[.string s, .int .i64 K, .int .i64 p, .int .i64 q, .int .i64 y, sz, .int .i64 co, lv] : Array Value)[i]? := fun i => by
    rw [cell_of_row _ _ _ _ _ (0, 0) (heap_alloc_new w _)]
  exact ⟨h 0, h 1, h 2, h 3, h 4, h 5, h 6, h 7⟩
theorem Fam8.to {G : Nat} {s : ByteArray} {K p q y co : Int} {sz lv : Value} {w w' : World} (h : Fam8 G s K p q y sz co lv w) (hG : G < w.heap.size) (hb : Below w.heap.size w w') : Fam8 G s K p q y sz co lv w' := by
  obtain ⟨h0, h1, h2, h3, h4, h5, h6, h7⟩ := h
  have k := fun i => (bcell hb).1 G i hG
  exact ⟨(k 0).trans h0, (k 1).trans h1, (k 2).trans h2, (k 3).trans h3, (k 4).trans h4, (k 5).trans h5, (k 6).trans h6, (k 7).trans h7⟩
def f32 : Int × Int × Int := (rFieldOf 32).1
theorem f32_ok : fieldB f32.1 f32.2.1 f32.2.2 = true := by
  rcases fieldOf_res 32 with h | ⟨p, q, y, h, hf⟩
  · exact absurd h (by decide +kernel)
  · unfold f32
    rw [h]
    exact hf.ok
/-- The first k numbers are 1 more than a multiple of 4. -/
def m4B (xs : List Int) (k : Nat) : Bool := (xs.take k).all (fun x => decide (x % 4 = 1))
theorem m4B_step {xs : List Int} {k : Nat} {x : Int} (h : xs[k]? = some x) : m4B xs (k + 1) = (m4B xs k && decide (x % 4 = 1)) := by
  unfold m4B
  rw [take_snoc h, List.all_append]
  simp
theorem m4B_stop {xs : List Int} {k : Nat} (h : m4B xs k = false) : ∀ n, k ≤ n → n ≤ xs.length → m4B xs n = false := by
  intro n hn
  induction n with
  | zero => intro _; rw [show k = 0 by omega] at h; exact h
  | succ n ih =>
    intro hs
    by_cases e : k = n + 1
    · rw [← e]; exact h
    · rw [m4B_step (List.getElem?_eq_getElem (show n < xs.length by omega)), ih (by omega) (by omega)]
      rfl
theorem rB_range {lo hi : Int} {xs : List Int} {n : Nat} (h : rB lo hi xs n = true) {k : Nat} (hk : k < n) : lo ≤ cellN xs k ∧ cellN xs k ≤ hi := by
  have h1 : rB lo hi xs (k + 1) = true := by
    cases e : rB lo hi xs (k + 1) with
    | true => rfl
    | false => rw [rB_stop e n (by omega)] at h; exact absurd h (by decide)
  rw [rB, Bool.and_eq_true, Bool.and_eq_true] at h1
  exact of_decide_eq_true h1.2.1
theorem m4B_at {xs : List Int} {n k : Nat} {x : Int} (h : m4B xs n = true) (hk : k < n) (hx : xs[k]? = some x) : x % 4 = 1 := by
  have hm : x ∈ xs.take n := by
    refine List.mem_of_getElem? (i := k) ?_
    rw [List.getElem?_take_of_lt hk]
    exact hx
  exact of_decide_eq_true (List.all_eq_true.1 h x hm)
theorem m4B_all {xs : List Int} {n : Nat} (hl : xs.length = n) (h : ∀ j, j < n → sizeOK (cellN xs j)) : m4B xs n = true := by
  refine List.all_eq_true.2 (fun x hx => decide_eq_true ?_)
  obtain ⟨j, hj⟩ := List.getElem?_of_mem (List.mem_of_mem_take hx)
  have hjn : j < n := by have := (List.getElem?_eq_some_iff.1 hj).1; omega
  have := (h j hjn).2
  rwa [cellN_of hj] at this
def rFam2 (p q y co : Int) (xs : List Int) : Bool := decide ((p, q, y) = f32) && (decide (1 ≤ co ∧ co ≤ 8) && (decide (1 ≤ xs.length ∧ (xs.length : Int) ≤ 8) && rB 3 24 xs xs.length))
def rFam1 (p q y co : Int) (xs : List Int) : Bool := decide (p = 2) && (decide (co = 0) && ((decide (1 ≤ xs.length ∧ (xs.length : Int) ≤ 8) && rB 17 41 xs xs.length) && m4B xs xs.length))
def famB (s : ByteArray) (K p q y co : Int) (xs ys : List Int) : Bool :=
  nameB s && (fieldB p q y && ((decide (1 ≤ ys.length ∧ (ys.length : Int) ≤ 4) && rB 1 80 ys ys.length) && (if K = 2 then rFam2 p q y co xs else if K = 1 then rFam1 p q y co xs else false)))
set_option maxHeartbeats 4000000 in
set_option maxRecDepth 20000 in
theorem specIsFamily_any (s : ByteArray) (K p q y co : Int) (a1 a2 : Option Addr) (n1 k1 n2 k2 : Nat) (xs ys : List Int) (w : World) (hs : s.size ≤ 1000000000) (h1 : Rd .i64 w a1 n1 xs) (hn1 : n1 ≤ 1000000000) (h2 : Rd .i64 w a2 n2 ys) (hn2 : n2 ≤ 1000000000) :
    Calls Try.prog 36 #[.agg #[.string s, .int .i64 K, .int .i64 p, .int .i64 q, .int .i64 y, .slice a1 n1 k1, .int .i64 co, .slice a2 n2 k2]] w (Ret (.bool (famB s K p q y co xs ys)) w) := by
  have HL1 := Lib.hid h1.len
  have HL2 := Lib.hid h2.len
  have hF := fam_new w s K p q y (.slice a1 n1 k1) co (.slice a2 n2 k2) 57
  have hal := Below.alloc (Below.refl w.heap.size w) (Nat.le_refl _) (.cells #[.string s, .int .i64 K, .int .i64 p, .int .i64 q, .int .i64 y, .slice a1 n1 k1, .int .i64 co, .slice a2 n2 k2] 57)
  have hlt0 : w.heap.size < (w.alloc (.cells #[.string s, .int .i64 K, .int .i64 p, .int .i64 q, .int .i64 y, .slice a1 n1 k1, .int .i64 co, .slice a2 n2 k2] 57)).heap.size := by simp
  obtain ⟨g0, g1, g2, g3, g4, g5, g6, g7⟩ := id hF
  go_enter Try.func36, Try.ntmps36
  go_wp2_with fail
  generalize (w.alloc (.cells #[.string s, .int .i64 K, .int .i64 p, .int .i64 q, .int .i64 y, .slice a1 n1 k1, .int .i64 co, .slice a2 n2 k2] 57)) = W0 at *
  have HG := Lib.hid (fun W (hW : Below W0.heap.size W0 W) => hF.to hlt0 hW)
  have HX := Lib.hid (fun W (hW : Below W0.heap.size W0 W) => h1.to (bt hal hW))
  have HY := Lib.hid (fun W (hW : Below W0.heap.size W0 W) => h2.to (bt hal hW))
  have hal0 := Lib.hid hal
  clear hF hlt0 h1 h2 hal
  have hfam := Lib.hid (show famB s K p q y co xs ys = (nameB s && (fieldB p q y && ((decide (1 ≤ n2 ∧ (n2 : Int) ≤ 4) && rB 1 80 ys n2) && (if K = 2 then rFam2 p q y co xs else if K = 1 then rFam1 p q y co xs else false)))) by unfold famB; rw [HL2.out])
  refine (l13Name_any s _ hs).mono ?_
  rintro e w' ⟨rfl, rfl⟩
  cases hb1 : nameB s with
  | false =>
    rw [hb1] at hfam
    go_wp2_with fail
    go_ret
    exact ⟨ret_bool (by rw [hfam.out]; rfl), hal0.out⟩
  | true =>
    rw [hb1] at hfam
    clear hb1
    go_wp2_with fail
    refine (isField_spec p q y _).mono ?_
    rintro e w1 ⟨rfl, hB1⟩
    cases hb2 : fieldB p q y with
    | false =>
      rw [hb2] at hfam
      go_wp2_with fail
      go_ret
      exact ⟨ret_bool (by rw [hfam.out]; rfl), bt hal0.out hB1⟩
    | true =>
      rw [hb2] at hfam
      clear g0 g1 g2 g3 g4 g5 g6 g7
      obtain ⟨g0, g1, g2, g3, g4, g5, g6, g7⟩ := HG.out _ hB1
      go_wp2_with fail
      refine (l13Rises_any a2 n2 k2 ys 4 1 80 _ (HY.out _ hB1) hn2).mono ?_
      rintro e w2 ⟨rfl, hB2⟩
      replace hB2 := bt hB1 hB2
      clear hB1
      cases hb3 : (decide (1 ≤ n2 ∧ (n2 : Int) ≤ 4) && rB 1 80 ys n2) with
      | false =>
        rw [hb3] at hfam
        go_wp2_with fail
        go_ret
        exact ⟨ret_bool (by rw [hfam.out]; rfl), bt hal0.out hB2⟩
      | true =>
        rw [hb3] at hfam
        clear g0 g1 g2 g3 g4 g5 g6 g7 hb3
        obtain ⟨g0, g1, g2, g3, g4, g5, g6, g7⟩ := HG.out _ hB2
        by_cases hK2 : K = 2
        · subst hK2
          replace hfam := Lib.hid (show famB s 2 p q y co xs ys = rFam2 p q y co xs by rw [hfam.out]; rfl)
          have hF32 := fieldOf_spec 32 w2 (by omega)
          rw [show (rFieldOf 32).1 = f32 from rfl] at hF32
          go_wp2_with fail
          refine hF32.mono ?_
          rintro e w3 ⟨rfl, hB3⟩
          replace hB3 := bt hB2 hB3
          clear g0 g1 g2 g3 g4 g5 g6 g7 hB2
          have hfm := Lib.hid (show rFam2 p q y co xs = (decide (p = f32.1 ∧ q = f32.2.1 ∧ y = f32.2.2) && (decide (1 ≤ co ∧ co ≤ 8) && (decide (1 ≤ n1 ∧ (n1 : Int) ≤ 8) && rB 3 24 xs n1))) by
            unfold rFam2
            rw [HL1.out]
            congr 1
            simp [Prod.ext_iff])
          generalize f32.1 = P at *
          generalize f32.2.1 = Q at *
          generalize f32.2.2 = Y at *
          generalize (rFieldOf 32).2 = E at *
          have hal3 := Below.alloc (Below.refl w3.heap.size w3) (Nat.le_refl _) (.cells #[.int .i64 P, .int .i64 Q, .int .i64 Y] 55)
          have t0 := cell_new w3 #[.int .i64 P, .int .i64 Q, .int .i64 Y] 55 0
          have t1 := cell_new w3 #[.int .i64 P, .int .i64 Q, .int .i64 Y] 55 1
          have t2 := cell_new w3 #[.int .i64 P, .int .i64 Q, .int .i64 Y] 55 2
          have hB4 := bt hB3 hal3
          obtain ⟨g0, g1, g2, g3, g4, g5, g6, g7⟩ := HG.out _ hB4
          by_cases hp : p = P ∧ q = Q ∧ y = Y
          · rw [decide_eq_true hp] at hfm
            obtain ⟨rfl, rfl, rfl⟩ := hp
            by_cases hc : 1 ≤ co ∧ co ≤ 8
            · rw [decide_eq_true hc] at hfm
              go_wp2_with (first | (go_at_call 59; refine (l01In_yes _ _ _ _ hc).mono ?_; rintro e w' ⟨rfl, rfl⟩))
              refine (l13Rises_any a1 n1 k1 xs 8 3 24 _ (HX.out _ hB4) hn1).mono ?_
              rintro e w5 ⟨rfl, hB5⟩
              generalize (decide (1 ≤ n1 ∧ (n1 : Int) ≤ 8) && rB 3 24 xs n1) = b3 at *
              go_wp2_with fail
              go_ret
              exact ⟨ret_bool (by rw [hfam.out, hfm.out]; rfl), bt hal0.out (bt hB4 hB5)⟩
            · rw [decide_eq_false hc] at hfm
              go_wp2_with (first | (go_at_call 59; refine (l01In_no _ _ _ _ hc).mono ?_; rintro e w' ⟨rfl, rfl⟩))
              go_ret
              exact ⟨ret_bool (by rw [hfam.out, hfm.out]; rfl), bt hal0.out hB4⟩
          · rw [decide_eq_false hp] at hfm
            have hno := Lib.hid hp
            clear hp
            go_wp2_with fail
            all_goals first | (exfalso; exact hno.out ⟨by assumption, by assumption, by assumption⟩) | (go_ret; exact ⟨ret_bool (by rw [hfam.out, hfm.out]; rfl), bt hal0.out hB4⟩)
        · have hfam2 := Lib.hid (show famB s K p q y co xs ys = (if K = 1 then rFam1 p q y co xs else false) by rw [hfam.out, if_neg hK2]; rfl)
          clear hfam
          by_cases hK1 : K = 1
          · subst hK1
            replace hfam2 := Lib.hid (show famB s 1 p q y co xs ys = rFam1 p q y co xs from hfam2.out)
            clear hK2
            have hfm := Lib.hid (show rFam1 p q y co xs = (decide (p = 2) && (decide (co = 0) && ((decide (1 ≤ n1 ∧ (n1 : Int) ≤ 8) && rB 17 41 xs n1) && m4B xs n1))) by unfold rFam1; rw [HL1.out])
            by_cases hp2 : p = 2
            · by_cases hc0 : co = 0
              · rw [decide_eq_true hp2, decide_eq_true hc0] at hfm
                have d1 : (p != 2) = false := by simp [hp2]
                have d2 : (co != 0) = false := by simp [hc0]
                clear hp2 hc0
                go_wp2_with fail
                refine (l13Rises_any a1 n1 k1 xs 8 17 41 _ (HX.out _ hB2) hn1).mono ?_
                rintro e w5 ⟨rfl, hB5⟩
                replace hB5 := bt hB2 hB5
                clear g0 g1 g2 g3 g4 g5 g6 g7 hB2
                cases hb4 : (decide (1 ≤ n1 ∧ (n1 : Int) ≤ 8) && rB 17 41 xs n1) with
                | false =>
                  rw [hb4] at hfm
                  go_wp2_with fail
                  go_ret
                  exact ⟨ret_bool (by rw [hfam2.out, hfm.out]; rfl), bt hal0.out hB5⟩
                | true =>
                  rw [hb4] at hfm
                  rw [Bool.and_eq_true] at hb4
                  have hrg := Lib.hid (fun (k : Nat) (hk : k < n1) => rB_range hb4.2 hk)
                  clear hb4
                  go_wp2_with fail
                  go_loopw [5] (fun i wr => ∃ k : Nat, k ≤ n1 ∧ i = .int .i64 (k : Int) ∧ Hid (m4B xs k = true) ∧ Below W0.heap.size W0 wr) (fun i _ => n1 - (intOf i).toNat)
                  case atStart => exact ⟨0, Nat.zero_le _, rfl, rfl, hB5⟩
                  case round =>
                    clear hB5
                    obtain ⟨k, hk, rfl, hm4, hB⟩ := hrel
                    obtain ⟨g0, g1, g2, g3, g4, g5, g6, g7⟩ := HG.out _ hB
                    by_cases hlt : k < n1
                    · obtain ⟨b1, o1, x, rfl, -, hc1, hx, hx1, hx2⟩ := (HX.out _ hB).at_ hlt
                      have hxr := hrg.out k hlt
                      rw [cellN_of hx.out] at hxr
                      have hl1 : (0 : Int) ≤ (k : Int) := by omega
                      have hl2 : (k : Int) < (n1 : Int) := by omega
                      have hst := Lib.hid (m4B_step hx.out)
                      by_cases h4 : x % 4 = 1
                      · have d4 : (x % 4 != 1) = false := by simp [h4]
                        rw [hm4.out, decide_eq_true h4] at hst
                        clear h4
                        go_wp2_with fail
                        go_roundw
                        case rel => exact ⟨k + 1, by omega, by go_num, hst, hB⟩
                        case measure => simp [intOf]; omega
                      · have d4 : (x % 4 != 1) = true := by simp [h4]
                        rw [decide_eq_false h4, Bool.and_false] at hst
                        have hst2 := Lib.hid (m4B_stop hst.out n1 (by omega) (by rw [HL1.out]; exact Nat.le_refl _))
                        clear h4
                        go_wp2_with fail
                        go_ret
                        exact ⟨ret_bool (by rw [hfam2.out, hfm.out, hst2.out]; rfl), bt hal0.out (by first | exact hB | exact hB.drew)⟩
                    · obtain rfl : k = n1 := by omega
                      go_wp2_with fail
                      go_ret
                      exact ⟨ret_bool (by rw [hfam2.out, hfm.out, hm4.out]; rfl), bt hal0.out (by first | exact hB | exact hB.drew)⟩
              · rw [decide_eq_true hp2, decide_eq_false hc0] at hfm
                have d1 : (p != 2) = false := by simp [hp2]
                have d2 : (co != 0) = true := by simp [hc0]
                clear hp2 hc0
                go_wp2_with fail
                go_ret
                exact ⟨ret_bool (by rw [hfam2.out, hfm.out]; rfl), bt hal0.out hB2⟩
            · rw [decide_eq_false hp2] at hfm
              have d1 : (p != 2) = true := by simp [hp2]
              clear hp2
              go_wp2_with fail
              go_ret
              exact ⟨ret_bool (by rw [hfam2.out, hfm.out]; rfl), bt hal0.out hB2⟩
          · rw [if_neg hK1] at hfam2
            have d1 : (K == 2) = false := by simp [hK2]
            have d2 : (K != 1) = true := by simp [hK1]
            go_wp2_with fail
            go_ret
            exact ⟨ret_bool hfam2.out.symm, bt hal0.out hB2⟩
set_option maxHeartbeats 4000000 in
set_option maxRecDepth 20000 in
theorem implIsFamily_any (s : ByteArray) (K p q y co : Int) (a1 a2 : Option Addr) (n1 k1 n2 k2 : Nat) (xs ys : List Int) (w : World) (hs : s.size ≤ 1000000000) (h1 : Rd .i64 w a1 n1 xs) (hn1 : n1 ≤ 1000000000) (h2 : Rd .i64 w a2 n2 ys) (hn2 : n2 ≤ 1000000000) :
    Calls Try.prog 38 #[.agg #[.string s, .int .i64 K, .int .i64 p, .int .i64 q, .int .i64 y, .slice a1 n1 k1, .int .i64 co, .slice a2 n2 k2]] w (Ret (.bool (famB s K p q y co xs ys)) w) := by
  have HL1 := Lib.hid h1.len
  have HL2 := Lib.hid h2.len
  have hF := fam_new w s K p q y (.slice a1 n1 k1) co (.slice a2 n2 k2) 57
  have hal := Below.alloc (Below.refl w.heap.size w) (Nat.le_refl _) (.cells #[.string s, .int .i64 K, .int .i64 p, .int .i64 q, .int .i64 y, .slice a1 n1 k1, .int .i64 co, .slice a2 n2 k2] 57)
  have hlt0 : w.heap.size < (w.alloc (.cells #[.string s, .int .i64 K, .int .i64 p, .int .i64 q, .int .i64 y, .slice a1 n1 k1, .int .i64 co, .slice a2 n2 k2] 57)).heap.size := by simp
  obtain ⟨g0, g1, g2, g3, g4, g5, g6, g7⟩ := id hF
  go_enter Try.func38, Try.ntmps38
  go_wp2_with fail
  generalize (w.alloc (.cells #[.string s, .int .i64 K, .int .i64 p, .int .i64 q, .int .i64 y, .slice a1 n1 k1, .int .i64 co, .slice a2 n2 k2] 57)) = W0 at *
  have HG := Lib.hid (fun W (hW : Below W0.heap.size W0 W) => hF.to hlt0 hW)
  have HX := Lib.hid (fun W (hW : Below W0.heap.size W0 W) => h1.to (bt hal hW))
  have HY := Lib.hid (fun W (hW : Below W0.heap.size W0 W) => h2.to (bt hal hW))
  have hal0 := Lib.hid hal
  have hR0 := Below.refl W0.heap.size W0
  clear hF hlt0 h1 h2 hal
  have hfam := Lib.hid (show famB s K p q y co xs ys = (nameB s && (fieldB p q y && ((decide (1 ≤ n2 ∧ (n2 : Int) ≤ 4) && rB 1 80 ys n2) && (if K = 2 then (decide ((p, q, y) = f32) && (decide (1 ≤ co ∧ co ≤ 8) && (decide (1 ≤ n1 ∧ (n1 : Int) ≤ 8) && rB 3 24 xs n1))) else if K = 1 then (decide (p = 2) && (decide (co = 0) && ((decide (1 ≤ n1 ∧ (n1 : Int) ≤ 8) && rB 17 41 xs n1) && m4B xs n1))) else false)))) by unfold famB rFam1 rFam2; rw [HL1.out, HL2.out])
  refine (isName_any s _ hs).mono ?_
  rintro e w' ⟨rfl, rfl⟩
  cases hb1 : nameB s with
  | false =>
    rw [hb1] at hfam
    go_wp2_with fail
    go_ret
    exact ⟨ret_bool (by rw [hfam.out]; simp), bt hal0.out hR0⟩
  | true =>
    rw [hb1] at hfam
    clear hb1
    by_cases h8 : 1 ≤ n1 ∧ (n1 : Int) ≤ 8
    · rw [decide_eq_true h8] at hfam
      by_cases h4 : 1 ≤ n2 ∧ (n2 : Int) ≤ 4
      · rw [decide_eq_true h4] at hfam
        go_wp2_with (first | (go_at_call 57; refine (inRange_yes _ _ _ _ (by omega)).mono ?_; rintro e w' ⟨rfl, rfl⟩))
        refine (rises_any a2 n2 k2 ys 1 80 _ (HY.out _ hR0) hn2).mono ?_
        rintro e w2 ⟨rfl, hB2⟩
        cases hb3 : rB 1 80 ys n2 with
        | false =>
          rw [hb3] at hfam
          go_wp2_with fail
          go_ret
          exact ⟨ret_bool (by rw [hfam.out]; simp), bt hal0.out hB2⟩
        | true =>
          rw [hb3] at hfam
          clear g0 g1 g2 g3 g4 g5 g6 g7 hb3
          obtain ⟨g0, g1, g2, g3, g4, g5, g6, g7⟩ := HG.out _ hB2
          by_cases hK1 : K = 1
          · subst hK1
            replace hfam := Lib.hid (show famB s 1 p q y co xs ys = (fieldB p q y && (decide (p = 2) && (decide (co = 0) && (rB 17 41 xs n1 && m4B xs n1)))) by rw [hfam.out]; simp)
            go_wp2_with fail
            go_loop [38] (fun i => ∃ k : Nat, k ≤ n1 ∧ i = .int .i64 (k : Int) ∧ Hid (∀ j, j < k → sizeOK (cellN xs j))) (fun i => n1 - (intOf i).toNat)
            case atStart => exact ⟨0, Nat.zero_le _, rfl, fun j hj => absurd hj (by omega)⟩
            case round =>
              obtain ⟨k, hk, rfl, hall⟩ := hrel
              by_cases hlt : k < n1
              · obtain ⟨b1, o1, x, rfl, -, hc1, hx, hx1, hx2⟩ := (HX.out _ hB2).at_ hlt
                by_cases hok : sizeOK x
                · have hall2 := Lib.hid (show ∀ j, j < k + 1 → sizeOK (cellN xs j) from fun j hj => by
                    by_cases e : j = k
                    · rw [e, cellN_of hx.out]; exact hok
                    · exact hall.out j (by omega))
                  have HS := Lib.hid (fun W => isMatrixSize_any x W)
                  rw [decide_eq_true hok] at HS
                  clear hok
                  go_wp2_with fail
                  refine (HS.out _).mono ?_
                  rintro e w' ⟨rfl, rfl⟩
                  go_wp2_with fail
                  go_round
                  case rel => exact ⟨k + 1, by omega, by go_num, hall2⟩
                  case measure => simp [intOf]; omega
                · have HS := Lib.hid (fun W => isMatrixSize_any x W)
                  rw [decide_eq_false hok] at HS
                  have hz := Lib.hid (show (rB 17 41 xs n1 && m4B xs n1) = false by
                    rw [Bool.eq_false_iff]
                    intro e
                    rw [Bool.and_eq_true] at e
                    have r1 := rB_range e.1 hlt
                    rw [cellN_of hx.out] at r1
                    exact hok ⟨r1, m4B_at e.2 hlt hx.out⟩)
                  clear hok
                  go_wp2_with fail
                  refine (HS.out _).mono ?_
                  rintro e w' ⟨rfl, rfl⟩
                  go_wp2_with fail
                  go_ret
                  exact ⟨ret_bool (by rw [hfam.out, hz.out]; simp), bt hal0.out hB2⟩
              · obtain rfl : k = n1 := by omega
                rw [m4B_all HL1.out hall.out] at hfam
                by_cases hp2 : p = 2
                · rw [decide_eq_true hp2] at hfam
                  have d1 : (p == 2) = true := by simp [hp2]
                  clear hp2
                  go_wp2_with fail
                  refine (isField_impl p q y _).mono ?_
                  rintro e w3 ⟨rfl, hB3⟩
                  replace hB3 := bt hB2 hB3
                  clear g0 g1 g2 g3 g4 g5 g6 g7 hB2
                  obtain ⟨g0, g1, g2, g3, g4, g5, g6, g7⟩ := HG.out _ hB3
                  cases hb2 : fieldB p q y with
                  | false =>
                    rw [hb2] at hfam
                    go_wp2_with fail
                    go_ret
                    exact ⟨ret_bool (by rw [hfam.out]; simp), bt hal0.out hB3⟩
                  | true =>
                    rw [hb2] at hfam
                    by_cases hc0 : co = 0
                    · rw [decide_eq_true hc0] at hfam
                      have d2 : (co == 0) = true := by simp [hc0]
                      clear hc0 hb2
                      go_wp2_with fail
                      refine (rises_any a1 k k1 xs 17 41 _ (HX.out _ hB3) hn1).mono ?_
                      rintro e w5 ⟨rfl, hB5⟩
                      generalize rB 17 41 xs k = b5 at *
                      go_wp2_with fail
                      go_ret
                      exact ⟨ret_bool (by rw [hfam.out]; simp), bt hal0.out (bt hB3 hB5)⟩
                    · rw [decide_eq_false hc0] at hfam
                      have d2 : (co == 0) = false := by simp [hc0]
                      clear hc0 hb2
                      go_wp2_with fail
                      go_ret
                      exact ⟨ret_bool (by rw [hfam.out]; simp), bt hal0.out hB3⟩
                · rw [decide_eq_false hp2] at hfam
                  have d1 : (p == 2) = false := by simp [hp2]
                  clear hp2
                  go_wp2_with fail
                  go_ret
                  exact ⟨ret_bool (by rw [hfam.out]; simp), bt hal0.out hB2⟩
          · by_cases hK2 : K = 2
            · subst hK2
              replace hfam := Lib.hid (show famB s 2 p q y co xs ys = (fieldB p q y && (decide ((p, q, y) = f32) && (decide (1 ≤ co ∧ co ≤ 8) && rB 3 24 xs n1))) by rw [hfam.out]; simp)
              have hF32 := fieldOf_impl 32 w2 (by omega)
              rw [show (rFieldOf 32).1 = f32 from rfl] at hF32
              have hf32 := Lib.hid f32_ok
              replace hfam := Lib.hid (show famB s 2 p q y co xs ys = (decide (p = f32.1 ∧ q = f32.2.1 ∧ y = f32.2.2) && (decide (1 ≤ co ∧ co ≤ 8) && rB 3 24 xs n1)) by
                rw [hfam.out]
                have e : decide ((p, q, y) = f32) = decide (p = f32.1 ∧ q = f32.2.1 ∧ y = f32.2.2) := by simp [Prod.ext_iff]
                rw [e]
                by_cases hp : p = f32.1 ∧ q = f32.2.1 ∧ y = f32.2.2
                · rw [hp.1, hp.2.1, hp.2.2, hf32.out]; rfl
                · rw [decide_eq_false hp]; simp)
              clear hf32
              go_wp2_with fail
              refine hF32.mono ?_
              rintro e w3 ⟨rfl, hB3⟩
              replace hB3 := bt hB2 hB3
              clear g0 g1 g2 g3 g4 g5 g6 g7 hB2
              generalize f32.1 = P at *
              generalize f32.2.1 = Q at *
              generalize f32.2.2 = Y at *
              generalize (rFieldOf 32).2 = E at *
              have hal3 := Below.alloc (Below.refl w3.heap.size w3) (Nat.le_refl _) (.cells #[.int .i64 P, .int .i64 Q, .int .i64 Y] 55)
              have t0 := cell_new w3 #[.int .i64 P, .int .i64 Q, .int .i64 Y] 55 0
              have t1 := cell_new w3 #[.int .i64 P, .int .i64 Q, .int .i64 Y] 55 1
              have t2 := cell_new w3 #[.int .i64 P, .int .i64 Q, .int .i64 Y] 55 2
              have hB4 := bt hB3 hal3
              have HG3 := HG.out _ hB3
              obtain ⟨g0, g1, g2, g3, g4, g5, g6, g7⟩ := HG.out _ hB4
              obtain ⟨u0, u1, u2, u3, u4, u5, u6, u7⟩ := HG3
              by_cases hp : p = P ∧ q = Q ∧ y = Y
              · rw [decide_eq_true hp] at hfam
                obtain ⟨rfl, rfl, rfl⟩ := hp
                by_cases hc : 1 ≤ co ∧ co ≤ 8
                · rw [decide_eq_true hc] at hfam
                  go_wp2_with (first | (go_at_call 57; refine (inRange_yes _ _ _ _ hc).mono ?_; rintro e w' ⟨rfl, rfl⟩))
                  refine (rises_any a1 n1 k1 xs 3 24 _ (HX.out _ hB4) hn1).mono ?_
                  rintro e w5 ⟨rfl, hB5⟩
                  generalize rB 3 24 xs n1 = b5 at *
                  go_wp2_with fail
                  go_ret
                  exact ⟨ret_bool (by rw [hfam.out]; simp), bt hal0.out (bt hB4 hB5)⟩
                · rw [decide_eq_false hc] at hfam
                  go_wp2_with (first | (go_at_call 57; refine (inRange_no _ _ _ _ hc).mono ?_; rintro e w' ⟨rfl, rfl⟩))
                  go_ret
                  exact ⟨ret_bool (by rw [hfam.out]; simp), bt hal0.out (by first | exact hB4 | exact hB3)⟩
              · rw [decide_eq_false hp] at hfam
                have hno := Lib.hid hp
                clear hp
                go_wp2_with fail
                all_goals first | (exfalso; exact hno.out ⟨by assumption, by assumption, by assumption⟩) | (go_ret; exact ⟨ret_bool (by rw [hfam.out]; simp), bt hal0.out (by first | exact hB4 | exact hB3)⟩)
            · replace hfam := Lib.hid (show famB s K p q y co xs ys = false by rw [hfam.out, if_neg hK2, if_neg hK1]; simp)
              have d1 : (K == 1) = false := by simp [hK1]
              have d2 : (K == 2) = false := by simp [hK2]
              go_wp2_with fail
              go_ret
              exact ⟨ret_bool hfam.out.symm, bt hal0.out hB2⟩
      · rw [decide_eq_false h4] at hfam
        go_wp2_with (first | (go_at_call 57; refine (inRange_yes _ _ _ _ (by omega)).mono ?_; rintro e w' ⟨rfl, rfl⟩) | (go_at_call 57; refine (inRange_no _ _ _ _ (by omega)).mono ?_; rintro e w' ⟨rfl, rfl⟩))
        go_ret
        exact ⟨ret_bool (by rw [hfam.out]; simp), bt hal0.out hR0⟩
    · rw [decide_eq_false h8] at hfam
      go_wp2_with (first | (go_at_call 57; refine (inRange_no _ _ _ _ (by omega)).mono ?_; rintro e w' ⟨rfl, rfl⟩))
      go_ret
      exact ⟨ret_bool (by rw [hfam.out]; simp), bt hal0.out hR0⟩
end Go.Proofs.Ytckmenjbblgiiaa
