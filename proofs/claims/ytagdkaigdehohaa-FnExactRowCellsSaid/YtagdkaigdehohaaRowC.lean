/-
  Contracts: the modules of a row, by the reference and by the program.
  Conditions: none.
-/
import Derived.Test.YtagdkaigdehohaaPaint
set_option linter.unusedVariables false
namespace Go.Proofs.Ytagdkaigdehohaa
open Go.RowKit Go.G8
def patOf (c v : Int) : List Int := allP[(3 * v + c).toNat]?.getD []
def rowV (c : Int) (vs : List Int) : List Int := vs.flatMap (fun v => paint 1 (patOf c v))
def rowL (c : Int) (vs : List Int) : List Int := paint 1 [4, 1, 1, 1] ++ rowV c vs ++ paint 1 [1, 1, 1, 1, 4]
def valB (vs : List Int) : Bool := vs.all (fun v => decide (0 ≤ v ∧ v ≤ 31))
def rRowCells (c : Int) (vs : List Int) : List Int × Int :=
  if ¬ (1 ≤ vs.length ∧ vs.length ≤ 12) then ([], 3) else if valB vs = false ∨ ¬ (0 ≤ c ∧ c ≤ 2) then ([], 2) else (rowL c vs, 0)
theorem val_bad {vs : List Int} {k : Nat} {x : Int} (hx : vs[k]? = some x) (h : ¬ (0 ≤ x ∧ x ≤ 31)) : valB vs = false := by
  rw [Bool.eq_false_iff]
  intro e
  have := List.all_eq_true.1 e x (List.mem_of_getElem? hx)
  simp at this
  exact h this
theorem val_all {vs : List Int} (h : ∀ x ∈ vs, 0 ≤ x ∧ x ≤ 31) : valB vs = true := List.all_eq_true.2 (fun x hx => by simpa using h x hx)
theorem val_of {vs : List Int} (h : valB vs = true) : ∀ x ∈ vs, 0 ≤ x ∧ x ≤ 31 := fun x hx => by simpa using List.all_eq_true.1 h x hx
theorem patOf_row {c v : Int} (hc : 0 ≤ c ∧ c ≤ 2) (hv : 0 ≤ v ∧ v ≤ 31) : ∃ I : Nat, 3 * v + c = (I : Int) ∧ I < 120 ∧ allP[I]? = some (patOf c v) ∧ (patOf c v).length = 8 ∧ ∀ x ∈ patOf c v, 1 ≤ x ∧ x ≤ 11 := by
  obtain ⟨I, hI⟩ : ∃ I : Nat, 3 * v + c = (I : Int) := Int.eq_ofNat_of_zero_le (by omega)
  have hl : I < allP.length := by rw [allP_len]; omega
  have he : patOf c v = allP[I] := by
    unfold patOf
    rw [hI, Int.toNat_natCast, List.getElem?_eq_getElem hl]
    rfl
  have hp := allP_row allP[I] (List.getElem_mem hl)
  exact ⟨I, hI, by omega, by rw [he]; exact List.getElem?_eq_getElem hl, by rw [he]; exact hp.1, by rw [he]; exact hp.2⟩
theorem rowV_len {c : Int} (hc : 0 ≤ c ∧ c ≤ 2) {vs : List Int} (h : ∀ x ∈ vs, 0 ≤ x ∧ x ≤ 31) : (rowV c vs).length ≤ 88 * vs.length ∧ ∀ x ∈ rowV c vs, x = 0 ∨ x = 1 := by
  induction vs with
  | nil => exact ⟨by simp [rowV], fun x hx => by simp [rowV] at hx⟩
  | cons v vs ih =>
    obtain ⟨h1, h2⟩ := ih (fun x hx => h x (by simp [hx]))
    obtain ⟨I, -, -, -, h3, h4⟩ := patOf_row hc (h v (by simp))
    have h5 := paint_len h4 1
    have e : rowV c (v :: vs) = paint 1 (patOf c v) ++ rowV c vs := rfl
    rw [e]
    refine ⟨by rw [List.length_append, List.length_cons]; omega, fun x hx => ?_⟩
    rcases List.mem_append.1 hx with hx | hx
    · exact paint_bit _ 1 (.inr rfl) x hx
    · exact h2 x hx
theorem rowV_snoc {c : Int} {vs : List Int} {k : Nat} {v : Int} (hv : vs[k]? = some v) : rowV c (vs.take (k + 1)) = rowV c (vs.take k) ++ paint 1 (patOf c v) := by
  rw [take_snoc hv]
  simp [rowV]
theorem rRowCells_ok (c : Int) (vs : List Int) : (rRowCells c vs).1.length ≤ 1000000 ∧ ∀ x ∈ (rRowCells c vs).1, fits .i64 x := by
  unfold rRowCells
  split
  · exact ⟨by simp, fun x hx => by simp at hx⟩
  · rename_i h1
    split
    · exact ⟨by simp, fun x hx => by simp at hx⟩
    · rename_i h2
      have hc : 0 ≤ c ∧ c ≤ 2 := Classical.not_not.1 (fun e => h2 (.inr e))
      have hv : valB vs = true := by cases h : valB vs with
        | true => rfl
        | false => exact absurd (.inl h) h2
      obtain ⟨h3, h4⟩ := rowV_len hc (val_of hv)
      have e1 : (paint 1 [4, 1, 1, 1]).length = 7 := rfl
      have e2 : (paint 1 [1, 1, 1, 1, 4]).length = 8 := rfl
      refine ⟨by simp only [rowL, List.length_append]; omega, fun x hx => ?_⟩
      have : x = 0 ∨ x = 1 := by
        simp only [rowL] at hx
        rcases List.mem_append.1 hx with hx | hx
        · rcases List.mem_append.1 hx with hx | hx
          · exact paint_bit _ 1 (.inr rfl) x hx
          · exact h4 x hx
        · exact paint_bit _ 1 (.inr rfl) x hx
      show -9223372036854775808 ≤ x ∧ x ≤ 9223372036854775807
      omega
set_option maxHeartbeats 1000000 in
set_option maxRecDepth 20000 in
theorem l17Row_any (c : Int) (a : Option Addr) (n k : Nat) (vs : List Int) (w : World) (hc : 0 ≤ c ∧ c ≤ 2) (h : Rd .i64 w a n vs) (hn : n ≤ 12) (hv : Hid (∀ x ∈ vs, 0 ≤ x ∧ x ≤ 31)) :
    Calls Try.prog 78 #[.int .i64 c, .slice a n k] w (RetRow .i64 2 (rowL c vs) w) := by
  have HL := Lib.hid h.len
  go_enter Try.func78, Try.ntmps78
  go_wp2_with fail
  refine (l17All_any _).mono ?_
  rintro e w1 ⟨a1, n1, k1, us, rfl, hP, hb1⟩
  have hn1 := prv_len hP
  rw [allP_len] at hn1
  go_wp2_with fail
  have hal := Below.alloc (Below.refl w1.heap.size w1) (Nat.le_refl _) (.cells (ints .i64 [4, 1, 1, 1]).toArray 2)
  have hlit := Ow.lit (K := .i64) (E := 2) (xs := [4, 1, 1, 1]) (B := w1.heap.size) w1 (Nat.le_refl _) (by simp)
  refine (l17Paint_any none 0 0 [] _ 4 4 [4, 1, 1, 1] _ (Rd.nil _ _) (by omega) (hlit.rd (by intro x hx; simp at hx; show -9223372036854775808 ≤ x ∧ x ≤ 9223372036854775807; omega)) (by omega) (by intro x hx; simp at hx; omega)).mono ?_
  rintro e w2 ⟨a2, n2, k2, rfl, ho2, hb2⟩
  have hP2 := prv_keep (prv_keep hP hal) hb2
  have hB2 := bt (bt hb1 hal) hb2
  have hD := (bt hb1 hal).size
  have hn2 := ho2.len
  replace ho2 := ho2.more hD
  clear hP hb1 hal hlit hb2
  go_wp2_with fail
  go_loopw [6, 7] (fun o i wr => ∃ (q : Nat) (a' : Option Addr) (n' c' : Nat), q ≤ n ∧ i = .int .i64 (q : Int) ∧ o = .slice a' n' c' ∧ n' ≤ 100 + 88 * q ∧ Ow .i64 2 w.heap.size wr a' n' c' (paint 1 [4, 1, 1, 1] ++ rowV c (vs.take q)) ∧ PRV w.heap.size wr a1 n1 k1 us allP ∧ Below w.heap.size w wr) (fun _ i _ => n - (intOf i).toNat)
  case atStart => exact ⟨0, _, _, _, Nat.zero_le _, rfl, rfl, by simp [paint] at hn2; omega, by simpa [rowV] using ho2, hP2, hB2⟩
  case round =>
    clear ho2 hP2 hB2 hn2
    obtain ⟨q, a', n', c', hq, rfl, rfl, hn', ho, hP, hB⟩ := hrel
    have hsz := ho.len
    by_cases hlt : q < n
    · obtain ⟨b0, o0, v, rfl, hbl, hcell, hx, hx1, hx2⟩ := h.at_ hlt
      have hv1 := hv.out v (List.mem_of_getElem? hx.out)
      obtain ⟨I, hI, hI2, hI3, hp8, hpw⟩ := patOf_row hc hv1
      have hsn := Lib.hid (rowV_snoc (c := c) hx.out)
      have hpl := paint_len hpw 1
      have e1 : IntKind.i64.wrap (3 * v) = 3 * v := IntWalk.i64_in _ (by omega)
      have e2 : IntKind.i64.wrap (3 * v + c) = (I : Int) := by rw [hI]; exact IntWalk.i64_in _ (by omega)
      have b1 : (0 : Int) ≤ (q : Int) := by omega
      have b2 : (q : Int) < (n : Int) := by omega
      have b3 : (0 : Int) ≤ (I : Int) := by omega
      have b4 : (I : Int) < (n1 : Int) := by omega
      have hcv := (hB.cell (p := ⟨b0, o0 + q, none⟩) hbl).trans hcell
      obtain ⟨b, m, d, hus, hox⟩ := hP.2.2 I _ hI3
      obtain ⟨g, rfl, hg1, hg2⟩ := hP.1.form (by omega)
      have hcr := hP.1.cellAt hus
      have hm := hox.len
      have hfw : ∀ x ∈ patOf c v, fits .i64 x := fun x hx => by have := hpw x hx; show -9223372036854775808 ≤ x ∧ x ≤ 9223372036854775807; omega
      have hrx := hox.rd hfw
      have hfo : ∀ x ∈ paint 1 [4, 1, 1, 1] ++ rowV c (vs.take q), fits .i64 x := fun x hx => by
        have : x = 0 ∨ x = 1 := by
          rcases List.mem_append.1 hx with hx | hx
          · exact paint_bit _ 1 (.inr rfl) x hx
          · exact (rowV_len hc (fun y hy => hv.out y (List.mem_of_mem_take hy))).2 x hx
        show -9223372036854775808 ≤ x ∧ x ≤ 9223372036854775807
        omega
      have hro := ho.rd hfo
      have HW := Lib.hid hpw
      clear hI hus hox hv1 hcell hpw hfw hfo
      go_wp2_with fail
      refine (l17Paint_any a' n' c' _ b m d _ _ hro (by omega) hrx (by omega) HW).mono ?_
      rintro e w3 ⟨a3, n3, c3, rfl, ho3, hb3⟩
      have hB3 := bt hB hb3
      have hP3 := prv_keep hP hb3
      have hn3 := ho3.len
      rw [List.length_append] at hn3
      replace ho3 := ho3.more hB.size
      rw [List.append_assoc, ← hsn.out] at ho3
      clear hro hrx ho hP hB hb3 e1 e2 hcv hcr
      go_wp2_with fail
      go_roundw
      case rel => exact ⟨q + 1, a3, n3, c3, by omega, by go_num, rfl, by omega, ho3, hP3, hB3⟩
      case measure => simp [intOf]; omega
    · obtain rfl : q = n := by omega
      rw [List.take_of_length_le (by rw [HL.out]; exact Nat.le_refl _)] at ho
      have hfo : ∀ x ∈ paint 1 [4, 1, 1, 1] ++ rowV c vs, fits .i64 x := fun x hx => by
        have : x = 0 ∨ x = 1 := by
          rcases List.mem_append.1 hx with hx | hx
          · exact paint_bit _ 1 (.inr rfl) x hx
          · exact (rowV_len hc hv.out).2 x hx
        show -9223372036854775808 ≤ x ∧ x ≤ 9223372036854775807
        omega
      have hal := Below.alloc (Below.refl wr.heap.size wr) (Nat.le_refl _) (.cells (ints .i64 [1, 1, 1, 1, 4]).toArray 2)
      have hlit := Ow.lit (K := .i64) (E := 2) (xs := [1, 1, 1, 1, 4]) (B := wr.heap.size) wr (Nat.le_refl _) (by simp)
      have hro := (ho.keep hal).rd hfo
      go_wp2_with fail
      refine (l17Paint_any a' n' c' _ _ 5 5 [1, 1, 1, 1, 4] _ hro (by omega) (hlit.rd (by intro x hx; simp at hx; show -9223372036854775808 ≤ x ∧ x ≤ 9223372036854775807; omega)) (by omega) (by intro x hx; simp at hx; omega)).mono ?_
      rintro e w3 ⟨a3, n3, c3, rfl, ho3, hb3⟩
      have hB3 := bt (bt hB hal) hb3
      replace ho3 := ho3.more (bt hB hal).size
      go_wp2_with fail
      go_ret
      exact ⟨_, _, _, rfl, ho3, hB3⟩
theorem rowWidth_any (n : Nat) (w : World) (hn : n ≤ 12) : Calls Try.prog 107 #[.int .i64 n] w (RetS (.int .i64 ((15 + 11 * n : Nat) : Int)) w) := by
  have e : ((15 + 11 * n : Nat) : Int) = 7 + 11 * (n : Int) + 8 := by omega
  rw [e]
  go_enter Try.func107, Try.ntmps107
  go_wp2
  go_ret
  exact ⟨rfl, rfl⟩
set_option maxHeartbeats 1000000 in
set_option maxRecDepth 20000 in
theorem rowCells_any (c : Int) (a : Option Addr) (n k : Nat) (vs : List Int) (a1 : Option Addr) (k1 : Nat) (w : World) (hc : 0 ≤ c ∧ c ≤ 2) (h : Rd .i64 w a n vs) (hn : 1 ≤ n ∧ n ≤ 12) (hv : Hid (∀ x ∈ vs, 0 ≤ x ∧ x ≤ 31)) {D0 : Nat} (hP : OwV 83 8 D0 w a1 120 k1 (flat allP)) :
    Calls Try.prog 79 #[.slice a1 120 k1, .int .i64 c, .slice a n k] w (RetRow .i64 2 (rowL c vs) w) := by
  have HL := Lib.hid h.len
  go_enter Try.func79, Try.ntmps79
  go_wp2_with fail
  refine (rowWidth_any n _ hn.2).mono ?_
  rintro e w' ⟨rfl, rfl⟩
  obtain ⟨i0, hi, hz0, hz1, hz2⟩ := info_parts info_int64
  go_wp2_with (at_make; refine wpList_make_own _ rfl _ _ 23 rfl w.heap.size 2 i0 _ 1 Try.underlying23 hi hz0 hz1 .i64 .i64 _ (15 + 11 * n) rfl rfl rfl (by rw [hz2]; omega) (by unfold maxLen; omega) (Nat.le_refl _) ?_; intro w1 hown1 hg1)
  have hs1 := hg1.size
  have hb1 : Below w.heap.size w w1 := (Below.refl _ _).grown hg1 (Nat.le_refl _) (fun z e => by cases e)
  have hcells : Ow .i64 2 w.heap.size w1 (some ⟨w.heap.size, 0, none⟩) 0 (15 + 11 * n) [] := hown1
  have hal := Below.alloc (Below.refl w1.heap.size w1) (Nat.le_refl _) (.cells (ints .i64 [4, 1, 1, 1]).toArray 2)
  have hlit := Ow.lit (K := .i64) (E := 2) (xs := [4, 1, 1, 1]) (B := w1.heap.size) w1 (Nat.le_refl _) (by simp)
  have hap0 : Apart (some ⟨w1.heap.size, 0, none⟩) (some ⟨w.heap.size, 0, none⟩) := fun z z1 z2 => by
    have := (hcells.lt z z2).2
    simp [blk] at z1
    omega
  have hDW := Nat.le_trans hs1 hal.size
  have hB1 := hb1.trans (hal.mono hs1)
  refine (bars_any w.heap.size _ 0 _ [] _ 4 4 [4, 1, 1, 1] _ (hcells.keep hal) hDW (by omega) hlit hap0 (by omega) (by intro x hx; simp at hx; omega)).mono ?_
  rintro e w2 ⟨a2, n2, k2, rfl, ho2, hb2⟩
  have hB2 := hB1.trans hb2
  have hn2 := ho2.len
  clear hal hlit hap0 hDW hb2 hcells hown1 hg1 hs1 hb1 hB1
  go_wp2_with fail
  go_loopw [7, 19] (fun o i wr => ∃ (q : Nat) (a' : Option Addr) (n' c' : Nat), q ≤ n ∧ i = .int .i64 (q : Int) ∧ o = .slice a' n' c' ∧ n' ≤ 100 + 88 * q ∧ Ow .i64 2 w.heap.size wr a' n' c' (paint 1 [4, 1, 1, 1] ++ rowV c (vs.take q)) ∧ Below w.heap.size w wr) (fun _ i _ => n - (intOf i).toNat)
  case atStart => exact ⟨0, _, _, _, Nat.zero_le _, rfl, rfl, by simp [paint] at hn2; omega, by simpa [rowV] using ho2, hB2⟩
  case round =>
    clear ho2 hB2 hn2
    obtain ⟨q, a', n', c', hq, rfl, rfl, hn', ho, hB⟩ := hrel
    have hsz := ho.len
    have hBs := hB.size
    by_cases hlt : q < n
    · obtain ⟨b0, o0, v, rfl, hbl, hcell, hx, hx1, hx2⟩ := h.at_ hlt
      have hv1 := hv.out v (List.mem_of_getElem? hx.out)
      obtain ⟨I, hI, hI2, hI3, hp8, hpw⟩ := patOf_row hc hv1
      have hsn := Lib.hid (rowV_snoc (c := c) hx.out)
      obtain ⟨R, hR⟩ : ∃ R, patOf c v = R := ⟨_, rfl⟩
      rw [hR] at hI3 hp8 hpw hsn
      obtain ⟨x0, x1, x2, x3, x4, x5, x6, x7, rfl⟩ := list8 R hp8
      have hpl := paint_len hpw 1
      have e1 : IntKind.i64.wrap (3 * v) = 3 * v := IntWalk.i64_in _ (by omega)
      have e2 : IntKind.i64.wrap (3 * v + c) = (I : Int) := by rw [hI]; exact IntWalk.i64_in _ (by omega)
      have b1 : (0 : Int) ≤ (q : Int) := by omega
      have b2 : (q : Int) < (n : Int) := by omega
      have b3 : (0 : Int) ≤ (I : Int) := by omega
      have b4 : (I : Int) < 120 := by omega
      have hcv := (hB.cell (p := ⟨b0, o0 + q, none⟩) hbl).trans hcell
      obtain ⟨g, rfl, hg1, hg2⟩ := hP.form (by omega)
      have hcl := fun j x hx => (hB.cell (p := ⟨g, I * 8 + j, none⟩) hg2).trans (hP.cellAt (flat_at (fun q hq => (allP_row q hq).1) hI3 j x hx))
      have p0 : wr.cell? ⟨g, I * 8, none⟩ = some (.int .i64 x0) := hcl 0 x0 rfl
      have p1 := hcl 1 x1 rfl
      have p2 := hcl 2 x2 rfl
      have p3 := hcl 3 x3 rfl
      have p4 := hcl 4 x4 rfl
      have p5 := hcl 5 x5 rfl
      have p6 := hcl 6 x6 rfl
      have p7 := hcl 7 x7 rfl
      have hal := Below.alloc (Below.refl wr.heap.size wr) (Nat.le_refl _) (.cells (ints .i64 [x0, x1, x2, x3, x4, x5, x6, x7]).toArray 83)
      have hlit := Ow.lit (K := .i64) (E := 83) (xs := [x0, x1, x2, x3, x4, x5, x6, x7]) (B := wr.heap.size) wr (Nat.le_refl _) (by simp)
      have hap : Apart (some ⟨wr.heap.size, 0, none⟩) a' := fun z z1 z2 => by
        have := (ho.lt z z2).2
        simp [blk] at z1
        omega
      have HW := Lib.hid hpw
      have hDW := Nat.le_trans hBs hal.size
      have hBW := hB.trans (hal.mono hBs)
      clear hI hv1 hcell hpw hcl hR hp8
      go_wp2_with fail
      refine (bars_any w.heap.size a' n' c' _ _ 8 8 [x0, x1, x2, x3, x4, x5, x6, x7] _ (ho.keep hal) hDW (by omega) hlit hap (by omega) HW).mono ?_
      rintro e w3 ⟨a3, n3, c3, rfl, ho3, hb3⟩
      have hB3 := hBW.trans hb3
      have hn3 := ho3.len
      rw [List.length_append] at hn3
      simp only [List.length_cons, List.length_nil] at hpl
      rw [List.append_assoc, ← hsn.out] at ho3
      clear ho hB hb3 e1 e2 hcv p0 p1 p2 p3 p4 p5 p6 p7 hal hlit hap hDW hBW HW
      go_wp2_with fail
      go_roundw
      case rel => exact ⟨q + 1, a3, n3, c3, by omega, by go_num, rfl, by omega, ho3, hB3⟩
      case measure => simp [intOf]; omega
    · obtain rfl : q = n := by omega
      rw [List.take_of_length_le (by rw [HL.out]; exact Nat.le_refl _)] at ho
      have hal := Below.alloc (Below.refl wr.heap.size wr) (Nat.le_refl _) (.cells (ints .i64 [1, 1, 1, 1, 4]).toArray 2)
      have hlit := Ow.lit (K := .i64) (E := 2) (xs := [1, 1, 1, 1, 4]) (B := wr.heap.size) wr (Nat.le_refl _) (by simp)
      have hap : Apart (some ⟨wr.heap.size, 0, none⟩) a' := fun z z1 z2 => by
        have := (ho.lt z z2).2
        simp [blk] at z1
        omega
      have hDW := Nat.le_trans hBs hal.size
      have hBW := hB.trans (hal.mono hBs)
      go_wp2_with fail
      refine (bars_any w.heap.size a' n' c' _ _ 5 5 [1, 1, 1, 1, 4] _ (ho.keep hal) hDW (by omega) hlit hap (by omega) (by intro x hx; simp at hx; omega)).mono ?_
      rintro e w3 ⟨a3, n3, c3, rfl, ho3, hb3⟩
      have hB3 := hBW.trans hb3
      go_wp2_with fail
      go_ret
      exact ⟨_, _, _, rfl, ho3, hB3⟩
end Go.Proofs.Ytagdkaigdehohaa
