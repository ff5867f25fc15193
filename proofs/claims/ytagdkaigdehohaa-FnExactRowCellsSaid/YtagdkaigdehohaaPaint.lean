/-
  Contracts: modules of some widths, dark and light in turn, by the reference and by the program.
  Conditions: at most eight widths, each from 1 to 11.
-/
import Derived.Test.YtagdkaigdehohaaPatD
import Derived.Test.YtagdkaigdehohaaL01d
set_option linter.unusedVariables false
namespace Go.Proofs.Ytagdkaigdehohaa
open Go.RowKit Go.G8
def paint : Int → List Int → List Int
  | _, [] => []
  | d, w :: ws => List.replicate w.toNat d ++ paint (1 - d) ws
/-- The colour of the i-th run. -/
def hue (d : Int) : Nat → Int
  | 0 => d
  | i + 1 => 1 - hue d i
theorem hue_1 (d : Int) (i : Nat) : hue (1 - d) i = 1 - hue d i := by
  induction i with
  | zero => rfl
  | succ i ih => simp only [hue, ih]
theorem hue_dark (i : Nat) : hue 1 i = 1 - (i : Int) % 2 := by
  induction i with
  | zero => rfl
  | succ i ih => simp only [hue, ih]; omega
theorem paint_snoc (ws : List Int) (d w : Int) : paint d (ws ++ [w]) = paint d ws ++ List.replicate w.toNat (hue d ws.length) := by
  induction ws generalizing d with
  | nil => simp [paint, hue]
  | cons v ws ih =>
    simp only [List.cons_append, paint, ih, List.length_cons, hue, List.append_assoc]
    rw [hue_1]
theorem paint_to {ws : List Int} {k : Nat} {x : Int} (hx : ws[k]? = some x) (d : Int) : paint d (ws.take (k + 1)) = paint d (ws.take k) ++ List.replicate x.toNat (hue d k) := by
  have hk := (List.getElem?_eq_some_iff.1 hx).1
  rw [take_snoc hx, paint_snoc, List.length_take, Nat.min_eq_left (by omega)]
theorem paint_len {ws : List Int} (h : ∀ x ∈ ws, 1 ≤ x ∧ x ≤ 11) (d : Int) : (paint d ws).length ≤ 11 * ws.length := by
  induction ws generalizing d with
  | nil => simp [paint]
  | cons x ws ih =>
    have h1 := ih (fun y hy => h y (by simp [hy])) (1 - d)
    have h2 := h x (by simp)
    simp only [paint, List.length_append, List.length_replicate, List.length_cons]
    omega
theorem paint_bit (ws : List Int) (d : Int) (hd : d = 0 ∨ d = 1) : ∀ x ∈ paint d ws, x = 0 ∨ x = 1 := by
  induction ws generalizing d with
  | nil => simp [paint]
  | cons w ws ih =>
    intro x hx
    simp only [paint] at hx
    rcases List.mem_append.1 hx with hx | hx
    · rw [List.eq_of_mem_replicate hx]; exact hd
    · exact ih (1 - d) (by omega) x hx
theorem hue_bit (i : Nat) : hue 1 i = 0 ∨ hue 1 i = 1 := by rw [hue_dark]; omega
theorem rep_snoc (k : Nat) (x : Int) : List.replicate (k + 1) x = List.replicate k x ++ [x] := List.replicate_succ'
/-- A number at the end of a row of one's own: the row stays in its block or moves to a new one. -/
theorem wpList_pushI {P : Program} (wr : World) {ops : Array Oper} {rest : List Oper} {o : Oper} {act : Act} {Q : Exit → Act → World → Prop} (hgd : o.guard = none) (s x : Operand) (t : TypeId)
    (ho : o.op = .call { callee := .builtin .append, args := #[s, x], argTypes := #[t, t] })
    (B : Nat) (E E' : TypeId) (i : TypeInfo) (bytes : Nat) (ht : P.underlying t = some (.slice E)) (hi : P.info? E = some i) (hz : i.zero = some (.int .i64 0)) (h1 : i.size = 1) (h2 : i.bytes = bytes) (h8 : bytes ≤ 64)
    (a : Option Addr) (n c : Nat) (xs : List Int) (y : Int) (hs : act.eval s = .slice a n c) (hown : Ow .i64 E B wr a n c xs) (hx : act.eval x = .slice (some ⟨wr.heap.size, 0, none⟩) 1 1)
    (hn : n + 1 ≤ 1000000000) (hB : B ≤ wr.heap.size)
    (hK : ∀ a' c' w', Ow .i64 E B w' a' (n + 1) c' (xs ++ [y]) → (wr.alloc (.cells #[.int .i64 y] E')).grownBy w' (blk a) → (blk a' = blk a ∨ blk a' = some (wr.heap.size + 1)) → wpList P ops Q rest (act.put o.dst (.slice a' (n + 1) c')) w') :
    wpList P ops Q (o :: rest) act (wr.alloc (.cells #[.int .i64 y] E')) :=
  wpList_pushF wr hgd s x t ho B E E' i _ 1 bytes ht hi hz h1 h2 rfl (by decide) h8 a n c (ints .i64 xs) #[.int .i64 y] 1 hs hown hx rfl (by intro u hu; simp at hu; subst hu; rfl) (by decide) hn hB
    (fun a' c' w' r1 r2 r3 => hK a' c' w' (by rw [Ow, ints_append]; exact r1) r2 r3)
set_option maxHeartbeats 1000000 in
set_option maxRecDepth 20000 in
theorem l17Paint_any (a : Option Addr) (n c : Nat) (xs : List Int) (b : Option Addr) (m d : Nat) (ws : List Int) (w : World) (h : Rd .i64 w a n xs) (hn : n ≤ 100000) (hl : Rd .i64 w b m ws) (hm : m ≤ 8) (hw : Hid (∀ x ∈ ws, 1 ≤ x ∧ x ≤ 11)) :
    Calls Try.prog 105 #[.slice a n c, .slice b m d] w (RetRow .i64 2 (xs ++ paint 1 ws) w) := by
  obtain ⟨i0, hi, hz0, hz1, hz2⟩ := info_parts info_int64
  have HL := Lib.hid hl.len
  go_enter Try.func105, Try.ntmps105
  go_wp2_with fail
  refine (l01Own_any a n c xs _ h (by omega)).mono ?_
  rintro e w1 ⟨a1, n1, c1, rfl, ho1, hb1⟩
  have hn1 : n1 = n := by have := ho1.len; have := h.len; omega
  subst hn1
  go_wp2_with fail
  go_loopw [5, 6] (fun o i wr => ∃ (k : Nat) (a' : Option Addr) (n' c' : Nat), k ≤ m ∧ i = .int .i64 (k : Int) ∧ o = .slice a' n' c' ∧ n' ≤ n1 + 11 * k ∧ Ow .i64 2 w.heap.size wr a' n' c' (xs ++ paint 1 (ws.take k)) ∧ Below w.heap.size w wr) (fun _ i _ => m - (intOf i).toNat)
  case atStart => exact ⟨0, a1, n1, c1, Nat.zero_le _, rfl, rfl, by omega, by simpa [paint] using ho1, hb1⟩
  case round =>
    clear ho1 hb1
    obtain ⟨k, a', n', c', hk, rfl, rfl, hn', ho, hB⟩ := hrel
    by_cases hlt : k < m
    · obtain ⟨b0, o0, x, rfl, hbl, hcell, hx, hx1, hx2⟩ := hl.at_ hlt
      have hxw := hw.out x (List.mem_of_getElem? hx.out)
      obtain ⟨X, rfl⟩ := Int.eq_ofNat_of_zero_le (show 0 ≤ x by omega)
      have hX : X ≤ 11 := by omega
      have hto := Lib.hid (paint_to hx.out 1)
      have hhue := hue_dark k
      rw [Int.toNat_natCast] at hto
      obtain ⟨H, hH⟩ : ∃ H, hue 1 k = H := ⟨_, rfl⟩
      rw [hH] at hhue hto
      have hcw := (hB.cell (p := ⟨b0, o0 + k, none⟩) hbl).trans hcell
      have b1 : (0 : Int) ≤ (k : Int) := by omega
      have b2 : (k : Int) < (m : Int) := by omega
      clear hxw hH
      go_wp2_with fail
      go_loopw [5, 7] (fun o j wr => ∃ (q : Nat) (a2 : Option Addr) (n2 c2 : Nat), q ≤ X ∧ j = .int .i64 (q : Int) ∧ o = .slice a2 n2 c2 ∧ n2 ≤ n' + q ∧ Ow .i64 2 w.heap.size wr a2 n2 c2 (xs ++ paint 1 (ws.take k) ++ List.replicate q H) ∧ Below w.heap.size w wr) (fun _ j _ => X - (intOf j).toNat)
      case atStart => exact ⟨0, _, _, _, by omega, rfl, rfl, by omega, by simpa using ho, hB⟩
      case round =>
        clear ho hB hcw
        obtain ⟨q, a2, n2, c2, hq, rfl, rfl, hn2, ho, hB⟩ := hrel
        have hcw := (hB.cell (p := ⟨b0, o0 + k, none⟩) hbl).trans hcell
        have hBr := hB.size
        by_cases hlt2 : q < X
        · go_wp2_with (at_builtin; refine wpList_push .i64 _ rfl _ _ 23 rfl w.heap.size 2 _ i0 8 Try.underlying23 hi hz0 hz1 hz2 (by omega) a2 n2 c2 _ _ rfl ho rfl (by omega) (by omega) ?_; intro a3 n3 c3 w3 ho3 hbel3)
          have hn3 := ho3.len
          have hn2e := ho.len
          have ho4 : Ow .i64 2 w.heap.size w3 a3 n3 c3 (xs ++ paint 1 (ws.take k) ++ List.replicate (q + 1) H) := by
            rw [rep_snoc, ← List.append_assoc, hhue]
            rw [hhue] at ho3
            exact ho3
          have hn4 : n3 ≤ n' + (q + 1) := by
            rw [List.length_append, List.length_singleton] at hn3
            omega
          have hB3 := hB.trans hbel3
          clear ho ho3 hbel3 hB hcw hn3 hn2e
          go_roundw
          case rel => exact ⟨q + 1, a3, n3, c3, by omega, by go_num, rfl, hn4, ho4, hB3⟩
          case measure => simp [intOf]; omega
        · obtain rfl : q = X := by omega
          rw [List.append_assoc, ← hto.out] at ho
          go_wp2_with fail
          go_roundw
          case rel => exact ⟨k + 1, a2, n2, c2, by omega, by go_num, rfl, by omega, ho, hB⟩
          case measure => simp [intOf]; omega
    · obtain rfl : k = m := by omega
      rw [List.take_of_length_le (by rw [HL.out]; exact Nat.le_refl _)] at ho
      go_wp2_with fail
      go_ret
      exact ⟨_, _, _, rfl, ho, hB⟩
set_option maxHeartbeats 1000000 in
set_option maxRecDepth 20000 in
theorem bars_any {E' D' : Nat} (B : Nat) (a : Option Addr) (n c : Nat) (xs : List Int) (b : Option Addr) (m d : Nat) (ws : List Int) (w : World) (h : Ow .i64 2 B w a n c xs) (hB : B ≤ w.heap.size) (hn : n ≤ 100000) (hl : Ow .i64 E' D' w b m d ws) (hap : Apart b a) (hm : m ≤ 8) (hw : Hid (∀ x ∈ ws, 1 ≤ x ∧ x ≤ 11)) :
    Calls Try.prog 106 #[.slice a n c, .slice b m d] w (GrowRow .i64 2 B (xs ++ paint 1 ws) w) := by
  obtain ⟨i0, hi, hz0, hz1, hz2⟩ := info_parts info_int64
  go_enter Try.func106, Try.ntmps106
  go_wp2_with fail
  go_loopw [0, 5, 11] (fun o dk i wr => ∃ (k : Nat) (a' : Option Addr) (n' c' : Nat), k ≤ m ∧ i = .int .i64 (k : Int) ∧ dk = .int .i64 (hue 1 k) ∧ o = .slice a' n' c' ∧ n' ≤ n + 11 * k ∧ Ow .i64 2 B wr a' n' c' (xs ++ paint 1 (ws.take k)) ∧ Ow .i64 E' D' wr b m d ws ∧ Apart b a' ∧ Below B w wr) (fun _ _ i _ => m - (intOf i).toNat)
  case atStart => exact ⟨0, a, n, c, Nat.zero_le _, rfl, rfl, rfl, by omega, by simpa [paint] using h, hl, hap, Below.refl _ _⟩
  case round =>
    clear h hl hap
    obtain ⟨k, a', n', c', hk, rfl, rfl, rfl, hn', ho, hl, hap, hbel⟩ := hrel
    have HL := hl.len
    by_cases hlt : k < m
    · obtain ⟨g, rfl, hg1, hg2⟩ := hl.form (by omega)
      obtain ⟨x, hx⟩ : ∃ x, ws[k]? = some x := ⟨_, List.getElem?_eq_getElem (by omega)⟩
      have hcell := hl.cell hx
      have hxw := hw.out x (List.mem_of_getElem? hx)
      obtain ⟨X, rfl⟩ := Int.eq_ofNat_of_zero_le (show 0 ≤ x by omega)
      have hX : X ≤ 11 := by omega
      have hto := Lib.hid (paint_to hx 1)
      rw [Int.toNat_natCast] at hto
      have hhue := hue_bit k
      obtain ⟨H, hH⟩ : ∃ H, hue 1 k = H := ⟨_, rfl⟩
      rw [hH] at hhue hto
      have hnext := Lib.hid (show hue 1 (k + 1) = 1 - H by rw [← hH]; rfl)
      rw [hH]
      have b1 : (0 : Int) ≤ (k : Int) := by omega
      have b2 : (k : Int) < (m : Int) := by omega
      clear hx hxw hH
      go_wp2_with fail
      go_loopw [0, 8] (fun o j wr => ∃ (q : Nat) (a2 : Option Addr) (n2 c2 : Nat), q ≤ X ∧ j = .int .i64 (q : Int) ∧ o = .slice a2 n2 c2 ∧ n2 ≤ n' + q ∧ Ow .i64 2 B wr a2 n2 c2 (xs ++ paint 1 (ws.take k) ++ List.replicate q H) ∧ Ow .i64 E' D' wr (some ⟨g, 0, none⟩) m d ws ∧ Apart (some ⟨g, 0, none⟩) a2 ∧ Below B w wr) (fun _ j _ => X - (intOf j).toNat)
      case atStart => exact ⟨0, _, _, _, by omega, rfl, rfl, by omega, by simpa using ho, hl, hap, hbel⟩
      case round =>
        clear ho hl hap hbel hcell
        obtain ⟨q, a2, n2, c2, hq, rfl, rfl, hn2, ho, hl, hap, hbel⟩ := hrel
        have hBr := Nat.le_trans hB hbel.size
        by_cases hlt2 : q < X
        · go_wp2_with (at_builtin; refine wpList_pushI _ rfl _ _ 23 rfl B 2 _ i0 8 Try.underlying23 hi hz0 hz1 hz2 (by omega) a2 n2 c2 _ _ rfl ho rfl (by omega) hBr ?_; intro a3 c3 w3 ho3 hg3 hbl3)
          have hal := Below.alloc (Below.refl wr.heap.size wr) (Nat.le_refl _) (.cells #[.int .i64 H] 2)
          have hl3 := (hl.keep hal).sep hg3 hap
          have hb3 := (hbel.trans (hal.mono hBr)).grown hg3 (Nat.le_trans hBr hal.size) (fun z e => (ho.lt z e).1)
          have hap3 : Apart (some ⟨g, 0, none⟩) a3 := fun z z1 z2 => by
            rcases hbl3 with h6 | h6
            · exact hap z z1 (by rw [← h6]; exact z2)
            · rw [h6] at z2
              injection z2 with z2
              have := (hl.lt z z1).2
              omega
          have ho4 : Ow .i64 2 B w3 a3 (n2 + 1) c3 (xs ++ paint 1 (ws.take k) ++ List.replicate (q + 1) H) := by
            rw [rep_snoc, ← List.append_assoc]
            exact ho3
          clear ho hl hap hbel ho3 hg3 hbl3 hal
          go_roundw
          case rel => exact ⟨q + 1, a3, n2 + 1, c3, by omega, by go_num, rfl, by omega, ho4, hl3, hap3, hb3⟩
          case measure => simp [intOf]; omega
        · obtain rfl : q = X := by omega
          rw [List.append_assoc, ← hto.out] at ho
          go_wp2_with fail
          go_roundw
          case rel => exact ⟨k + 1, a2, n2, c2, by omega, by go_num, by rw [hnext.out], rfl, by omega, ho, hl, hap, hbel⟩
          case measure => simp [intOf]; omega
    · obtain rfl : k = m := by omega
      rw [List.take_of_length_le (by omega)] at ho
      go_wp2_with fail
      go_ret
      exact ⟨_, _, _, rfl, ho, hbel⟩
end Go.Proofs.Ytagdkaigdehohaa
