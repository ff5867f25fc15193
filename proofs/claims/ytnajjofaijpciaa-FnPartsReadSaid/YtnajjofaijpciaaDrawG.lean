/-
  Contracts: the fields and elements that the reference draws.
  Conditions: codes of at most 4096 bytes.
-/
import Derived.Test.YtnajjofaijpciaaMg33
set_option linter.unusedVariables false
namespace Go.Proofs.Ytnajjofaijpciaa
open Go.RowKit Go.G8
/-- What a draw of a field hands back: three numbers that are small. -/
def DrawnF (B S : Nat) (w : World) (e : Ending) (w' : World) : Prop :=
  ∃ p q y : Int, e = .returned (.agg #[.int .i64 p, .int .i64 q, .int .i64 y]) ∧ (-100000 ≤ p ∧ p ≤ 100000) ∧ (-100000 ≤ q ∧ q ≤ 100000) ∧ (-100000 ≤ y ∧ y ≤ 100000) ∧ Src B w' S ∧ w.grownBy w' (some S)
def DrawnG (B S : Nat) (w : World) (e : Ending) (w' : World) : Prop :=
  ∃ p q y : Int, e = .returned (.agg #[.int .i64 p, .int .i64 q, .int .i64 y]) ∧ (-200000 ≤ p ∧ p ≤ 200000) ∧ (-200000 ≤ q ∧ q ≤ 200000) ∧ (-200000 ≤ y ∧ y ≤ 200000) ∧ Src B w' S ∧ w.grownBy w' (some S)
theorem set3c (wr : World) (b : Nat) (x y z : Int) {u0 u1 u2 : Value} (c0 : wr.cell? ⟨b, 0, none⟩ = some u0) (c1 : wr.cell? ⟨b, 1, none⟩ = some u1) (c2 : wr.cell? ⟨b, 2, none⟩ = some u2) :
    (((wr.setCell ⟨b, 0, none⟩ (.int .i64 x)).setCell ⟨b, 1, none⟩ (.int .i64 y)).setCell ⟨b, 2, none⟩ (.int .i64 z)).cell? ⟨b, 0, none⟩ = some (.int .i64 x) ∧
    (((wr.setCell ⟨b, 0, none⟩ (.int .i64 x)).setCell ⟨b, 1, none⟩ (.int .i64 y)).setCell ⟨b, 2, none⟩ (.int .i64 z)).cell? ⟨b, 1, none⟩ = some (.int .i64 y) ∧
    (((wr.setCell ⟨b, 0, none⟩ (.int .i64 x)).setCell ⟨b, 1, none⟩ (.int .i64 y)).setCell ⟨b, 2, none⟩ (.int .i64 z)).cell? ⟨b, 2, none⟩ = some (.int .i64 z) ∧
    wr.grownBy (((wr.setCell ⟨b, 0, none⟩ (.int .i64 x)).setCell ⟨b, 1, none⟩ (.int .i64 y)).setCell ⟨b, 2, none⟩ (.int .i64 z)) (some b) := by
  have n10 : (⟨b, 1, none⟩ : Addr) ≠ ⟨b, 0, none⟩ := by intro e; injection e; omega
  have n20 : (⟨b, 2, none⟩ : Addr) ≠ ⟨b, 0, none⟩ := by intro e; injection e; omega
  have n21 : (⟨b, 2, none⟩ : Addr) ≠ ⟨b, 1, none⟩ := by intro e; injection e; omega
  have h0 := World.cell?_setCell_same _ _ (.int .i64 x) c0
  have h1 := World.cell?_setCell_same _ _ (.int .i64 y) ((World.cell?_setCell_other wr _ _ (.int .i64 x) n10.symm).trans c1)
  have h2 := World.cell?_setCell_same _ _ (.int .i64 z) ((World.cell?_setCell_other (wr.setCell ⟨b, 0, none⟩ (.int .i64 x)) _ _ (.int .i64 y) n21.symm).trans ((World.cell?_setCell_other wr _ _ (.int .i64 x) n20.symm).trans c2))
  refine ⟨?_, ?_, h2, ?_⟩
  · rw [World.cell?_setCell_other _ _ _ _ n20, World.cell?_setCell_other _ _ _ _ n10]; exact h0
  · rw [World.cell?_setCell_other _ _ _ _ n21]; exact h1
  · exact ⟨rfl, rfl, rfl, by simp, fun q hq hne => (Below.heap_setCell _ _ _ q (fun e => hne (by rw [e]))).trans ((Below.heap_setCell _ _ _ q (fun e => hne (by rw [e]))).trans (Below.heap_setCell wr _ _ q (fun e => hne (by rw [e]))))⟩
theorem fieldOf_small (x : Int) : (-1021 ≤ (rFieldOf x).1.1 ∧ (rFieldOf x).1.1 ≤ 1021) ∧ (-1021 ≤ (rFieldOf x).1.2.1 ∧ (rFieldOf x).1.2.1 ≤ 1021) ∧ (-1021 ≤ (rFieldOf x).1.2.2 ∧ (rFieldOf x).1.2.2 ≤ 1021) := by
  rcases fieldOf_res x with h | ⟨p, q, y, h, hF⟩
  · rw [h]; simp
  · have := hF.bd
    rw [h]
    simp only
    omega
theorem fin3 {B S : Nat} {w W : World} (hS : Src B W S) (hk : w.grownBy W (some S)) (hne : w.heap.size ≠ S) (hB : B ≤ w.heap.size) (x y z : Int) {u0 u1 u2 : Value} (c0 : W.cell? ⟨w.heap.size, 0, none⟩ = some u0) (c1 : W.cell? ⟨w.heap.size, 1, none⟩ = some u1) (c2 : W.cell? ⟨w.heap.size, 2, none⟩ = some u2) :
    (((W.setCell ⟨w.heap.size, 0, none⟩ (.int .i64 x)).setCell ⟨w.heap.size, 1, none⟩ (.int .i64 y)).setCell ⟨w.heap.size, 2, none⟩ (.int .i64 z)).cell? ⟨w.heap.size, 0, none⟩ = some (.int .i64 x) ∧
    (((W.setCell ⟨w.heap.size, 0, none⟩ (.int .i64 x)).setCell ⟨w.heap.size, 1, none⟩ (.int .i64 y)).setCell ⟨w.heap.size, 2, none⟩ (.int .i64 z)).cell? ⟨w.heap.size, 1, none⟩ = some (.int .i64 y) ∧
    (((W.setCell ⟨w.heap.size, 0, none⟩ (.int .i64 x)).setCell ⟨w.heap.size, 1, none⟩ (.int .i64 y)).setCell ⟨w.heap.size, 2, none⟩ (.int .i64 z)).cell? ⟨w.heap.size, 2, none⟩ = some (.int .i64 z) ∧
    Src B (((W.setCell ⟨w.heap.size, 0, none⟩ (.int .i64 x)).setCell ⟨w.heap.size, 1, none⟩ (.int .i64 y)).setCell ⟨w.heap.size, 2, none⟩ (.int .i64 z)) S ∧ w.grownBy (((W.setCell ⟨w.heap.size, 0, none⟩ (.int .i64 x)).setCell ⟨w.heap.size, 1, none⟩ (.int .i64 y)).setCell ⟨w.heap.size, 2, none⟩ (.int .i64 z)) (some S) := by
  obtain ⟨e0, e1, e2, hg⟩ := set3c W w.heap.size x y z c0 c1 c2
  exact ⟨e0, e1, e2, src_sep hS hg hne hB, keeps_new hk hg (Nat.le_refl _)⟩
theorem set1F {B S F i : Nat} {w W : World} {v : Value} (hS : Src B W S) (hk : w.grownBy W (some S)) (hF : F ≠ S) (hFw : w.heap.size < F) (hB : B ≤ w.heap.size) {u0 u1 u2 : Value} (c0 : W.cell? ⟨w.heap.size, 0, none⟩ = some u0) (c1 : W.cell? ⟨w.heap.size, 1, none⟩ = some u1) (c2 : W.cell? ⟨w.heap.size, 2, none⟩ = some u2) :
    Src B (W.setCell ⟨F, i, none⟩ v) S ∧ w.grownBy (W.setCell ⟨F, i, none⟩ v) (some S) ∧ (W.setCell ⟨F, i, none⟩ v).cell? ⟨w.heap.size, 0, none⟩ = some u0 ∧ (W.setCell ⟨F, i, none⟩ v).cell? ⟨w.heap.size, 1, none⟩ = some u1 ∧ (W.setCell ⟨F, i, none⟩ v).cell? ⟨w.heap.size, 2, none⟩ = some u2 := by
  have hg : W.grownBy (W.setCell ⟨F, i, none⟩ v) (some F) := ⟨rfl, rfl, rfl, by simp, fun q hq hne => Below.heap_setCell W _ _ q (fun e => hne (by rw [e]))⟩
  refine ⟨src_sep hS hg hF (by omega), keeps_new hk hg (by omega), ?_, ?_, ?_⟩ <;> (rw [World.cell?_setCell_other _ _ _ _ (by intro e; injection e; omega)]; assumption)
theorem set3F {B S F : Nat} {w W : World} {v v1 v2 : Value} (hS : Src B W S) (hk : w.grownBy W (some S)) (hF : F ≠ S) (hFw : w.heap.size < F) (hB : B ≤ w.heap.size) {u0 u1 u2 : Value} (c0 : W.cell? ⟨w.heap.size, 0, none⟩ = some u0) (c1 : W.cell? ⟨w.heap.size, 1, none⟩ = some u1) (c2 : W.cell? ⟨w.heap.size, 2, none⟩ = some u2) :
    Src B (((W.setCell ⟨F, 0, none⟩ v).setCell ⟨F, 1, none⟩ v1).setCell ⟨F, 2, none⟩ v2) S ∧ w.grownBy (((W.setCell ⟨F, 0, none⟩ v).setCell ⟨F, 1, none⟩ v1).setCell ⟨F, 2, none⟩ v2) (some S) ∧ (((W.setCell ⟨F, 0, none⟩ v).setCell ⟨F, 1, none⟩ v1).setCell ⟨F, 2, none⟩ v2).cell? ⟨w.heap.size, 0, none⟩ = some u0 ∧ (((W.setCell ⟨F, 0, none⟩ v).setCell ⟨F, 1, none⟩ v1).setCell ⟨F, 2, none⟩ v2).cell? ⟨w.heap.size, 1, none⟩ = some u1 ∧ (((W.setCell ⟨F, 0, none⟩ v).setCell ⟨F, 1, none⟩ v1).setCell ⟨F, 2, none⟩ v2).cell? ⟨w.heap.size, 2, none⟩ = some u2 := by
  obtain ⟨a1, a2, a3, a4, a5⟩ := set1F (i := 0) (v := v) hS hk hF hFw hB c0 c1 c2
  obtain ⟨b1, b2, b3, b4, b5⟩ := set1F (i := 1) (v := v1) a1 a2 hF hFw hB a3 a4 a5
  exact set1F (i := 2) (v := v2) b1 b2 hF hFw hB b3 b4 b5
set_option maxHeartbeats 1000000 in
set_option maxRecDepth 20000 in
theorem l02Draw_any (B S : Nat) (w : World) (h : Src B w S) :
    Calls Try.prog 69 #[.pointer (some ⟨S, 0, none⟩)] w (DrawnF B S w) := by
  have HH := Lib.hid h
  have hB0 := (Src_le h).2.1
  have hSw := (Src_le h).2.2
  clear h
  obtain ⟨s1, s2, s3, s4, s5, s6⟩ := start_fld w 36
  have hSV := src_keep HH.out s1
  have hVs : (w.alloc (.cells #[.int .i64 0, .int .i64 0, .int .i64 0] 36)).heap.size = w.heap.size + 1 := by simp
  go_enter Try.func69, Try.ntmps69
  go_wp2_with fail
  generalize (w.alloc (.cells #[.int .i64 0, .int .i64 0, .int .i64 0] 36)) = V at *
  have ho := Ow.lit (K := .i64) (E := 2) (xs := [8, 16, 32, 64, 7, 11, 13, 17, 31, 256, 101, 3]) (B := V.heap.size) V (Nat.le_refl _) (by decide)
  have hal : Below V.heap.size V (V.alloc (.cells (ints .i64 [8, 16, 32, 64, 7, 11, 13, 17, 31, 256, 101, 3]).toArray 2)) := Below.alloc (Below.refl V.heap.size V) (Nat.le_refl _) _
  have hS3 := src_keep hSV hal
  refine (l01Next_any _ S 12 _ hS3 (by omega)).mono ?_
  rintro e w3 ⟨r, rfl, hr0, hr1, hS4, hg3⟩
  obtain ⟨k, rfl⟩ := Int.eq_ofNat_of_zero_le hr0
  have hk : k < 12 := by omega
  have hSV2 := (Src_le hSV).2.2
  have hb3 := keeps_trans (keeps_trans (keeps_below s1) (keeps_below hal)) hg3
  have ho3 := Ow.sep (a' := some ⟨S, 0, none⟩) ho hg3 (fun g h1 h2 => by simp [blk] at h1 h2; omega)
  have hws : w.heap.size < (V.alloc (.cells (ints .i64 [8, 16, 32, 64, 7, 11, 13, 17, 31, 256, 101, 3]).toArray 2)).heap.size := by simp; omega
  have hwn : w.heap.size ≠ S := by omega
  have g0 := (gcell hg3 hws hwn 0).1.trans ((hal.cell (p := ⟨w.heap.size, 0, none⟩) s2).trans s3)
  have g1 := (gcell hg3 hws hwn 1).1.trans ((hal.cell (p := ⟨w.heap.size, 1, none⟩) s2).trans s4)
  have g2 := (gcell hg3 hws hwn 2).1.trans ((hal.cell (p := ⟨w.heap.size, 2, none⟩) s2).trans s5)
  have g3 := fun i => (gcell hg3 hws hwn i).2.trans ((hal.frozen (p := ⟨w.heap.size, i, none⟩) s2).trans (s6 i))
  have hw3 := Nat.lt_of_lt_of_le hws hg3.size
  obtain ⟨x, hx⟩ : ∃ x, ([8, 16, 32, 64, 7, 11, 13, 17, 31, 256, 101, 3] : List Int)[k]? = some x := ⟨_, List.getElem?_eq_getElem (by simpa using hk)⟩
  have hcell := ho3.cell hx
  rw [hVs] at hcell
  have hxm := List.mem_of_getElem? hx
  have hxf : -9223372036854775808 ≤ x ∧ x ≤ 9223372036854775807 := by
    simp only [List.mem_cons, List.not_mem_nil, or_false] at hxm
    omega
  have b1 : (0 : Int) ≤ (k : Int) := by omega
  have b2 : (k : Int) < 12 := by omega
  have HI := Lib.hid (fun w => fieldOf_spec x w hxf)
  have HSm := Lib.hid (fieldOf_small x)
  obtain ⟨rr, hrr⟩ : ∃ rr, rFieldOf x = rr := ⟨_, rfl⟩
  rw [hrr] at HI HSm
  obtain ⟨⟨p, q, y⟩, cd⟩ := rr
  clear ho3 hg3 hr1 hr0 hx hxm ho hal hS3 hSV s1 s2 s3 s4 s5 s6 hws hrr hSV2 hVs
  go_wp2_with fail
  refine (HI.out _).mono ?_
  rintro e w4 ⟨rfl, hb4⟩
  obtain ⟨hcc, hff⟩ := bcell hb4
  replace g0 := (hcc _ 0 hw3).trans g0
  replace g1 := (hcc _ 1 hw3).trans g1
  replace g2 := (hcc _ 2 hw3).trans g2
  replace g3 := fun i => (hff _ i hw3).trans (g3 i)
  have hw4 := Nat.lt_of_lt_of_le hw3 hb4.size
  have hS5 := Lib.hid (src_keep hS4 hb4)
  have hb5 := Lib.hid (keeps_trans hb3 (keeps_below hb4))
  clear hcc hff hb4 hS4 hb3 hcell hw3
  go_wp2_with fail
  obtain ⟨e0, e1, e2, hg5⟩ := set3c w4 w.heap.size p q y g0 g1 g2
  have hs5 := hg5.size
  have f0 := (alloc_cell_old _ (.cells #[.int .i64 p, .int .i64 q, .int .i64 y] 36) w.heap.size 0 (Nat.lt_of_lt_of_le hw4 hs5)).trans e0
  have f1 := (alloc_cell_old _ (.cells #[.int .i64 p, .int .i64 q, .int .i64 y] 36) w.heap.size 1 (Nat.lt_of_lt_of_le hw4 hs5)).trans e1
  have f2 := (alloc_cell_old _ (.cells #[.int .i64 p, .int .i64 q, .int .i64 y] 36) w.heap.size 2 (Nat.lt_of_lt_of_le hw4 hs5)).trans e2
  obtain ⟨m1, m2, m3⟩ := HSm.out
  refine bodyPost_ret (v := .agg #[.int .i64 p, .int .i64 q, .int .i64 y]) (by simp [results, Try.results69, go_sem, f0, f1, f2]) rfl ⟨p, q, y, rfl, by omega, by omega, by omega, ?_, ?_⟩
  · exact src_keep (src_sep hS5.out hg5 hwn hB0) (Below.alloc (Below.refl _ _) (Nat.le_refl _) _)
  · exact keeps_trans (keeps_new hb5.out hg5 (Nat.le_refl _)) (keeps_below (Below.alloc (Below.refl _ _) (Nat.le_refl _) _))
set_option maxHeartbeats 4000000 in
set_option maxRecDepth 20000 in
theorem l02DrawAny_any (B S : Nat) (w : World) (h : Src B w S) :
    Calls Try.prog 48 #[.pointer (some ⟨S, 0, none⟩)] w (DrawnG B S w) := by
  have HH := Lib.hid h
  have hB0 := (Src_le h).2.1
  have hSw := (Src_le h).2.2
  clear h
  obtain ⟨s1, s2, s3, s4, s5, s6⟩ := start_fld w 36
  have hSV := src_keep HH.out s1
  have hVs : (w.alloc (.cells #[.int .i64 0, .int .i64 0, .int .i64 0] 36)).heap.size = w.heap.size + 1 := by simp
  go_enter Try.func48, Try.ntmps48
  go_wp2_with fail
  generalize (w.alloc (.cells #[.int .i64 0, .int .i64 0, .int .i64 0] 36)) = V at *
  refine (l02Draw_any B S V hSV).mono ?_
  rintro e w3 ⟨p, q, y, rfl, m1, m2, m3, hS3, hg3⟩
  have hwn : w.heap.size ≠ S := by omega
  have g0 := (gcell hg3 s2 hwn 0).1.trans s3
  have g1 := (gcell hg3 s2 hwn 1).1.trans s4
  have g2 := (gcell hg3 s2 hwn 2).1.trans s5
  have g3 := fun i => (gcell hg3 s2 hwn i).2.trans (s6 i)
  have hw3 := Nat.lt_of_lt_of_le s2 hg3.size
  have hb3 := keeps_trans (keeps_below (S := S) s1) hg3
  have hSw3 := (Src_le hS3).2.2
  clear s1 s2 s3 s4 s5 s6 hg3 hSV
  have hal : Below w3.heap.size w3 (w3.alloc (.cells #[.int .i64 p, .int .i64 q, .int .i64 y] 36)) := Below.alloc (Below.refl _ _) (Nat.le_refl _) _
  obtain ⟨n0, n1, n2, n3⟩ := new_fld w3 (.int .i64 p) (.int .i64 q) (.int .i64 y) 36
  have n4 : ∀ i, (w3.alloc (.cells #[.int .i64 p, .int .i64 q, .int .i64 y] 36)).frozen? ⟨w3.heap.size, i, none⟩ = false := fun i => frozen_of_row _ _ _ _ _ (heap_alloc_new w3 _)
  have hS4 := src_keep hS3 hal
  have k0 := (hal.cell (p := ⟨w.heap.size, 0, none⟩) hw3).trans g0
  have k1 := (hal.cell (p := ⟨w.heap.size, 1, none⟩) hw3).trans g1
  have k2 := (hal.cell (p := ⟨w.heap.size, 2, none⟩) hw3).trans g2
  have k3 := fun i => (hal.frozen (p := ⟨w.heap.size, i, none⟩) hw3).trans (g3 i)
  have hb4 := keeps_trans hb3 (keeps_below (S := S) hal)
  clear g0 g1 g2 g3 hal hb3
  go_wp2_with fail
  generalize (w3.alloc (.cells #[.int .i64 p, .int .i64 q, .int .i64 y] 36)) = V2 at *
  refine (l01Next_any _ S 20 _ hS4 (by omega)).mono ?_
  rintro e w5 ⟨r, rfl, hr0, hr1, hS5, hg5⟩
  have hFn : w3.heap.size ≠ S := by omega
  have hw4 : w.heap.size < V2.heap.size := by omega
  have f0 := (gcell hg5 n3 hFn 0).1.trans n0
  have f1 := (gcell hg5 n3 hFn 1).1.trans n1
  have f2 := (gcell hg5 n3 hFn 2).1.trans n2
  have f3 := fun i => (gcell hg5 n3 hFn i).2.trans (n4 i)
  have r0 := (gcell hg5 hw4 hwn 0).1.trans k0
  have r1 := (gcell hg5 hw4 hwn 1).1.trans k1
  have r2 := (gcell hg5 hw4 hwn 2).1.trans k2
  have r3 := fun i => (gcell hg5 hw4 hwn i).2.trans (k3 i)
  have hb5 := keeps_trans hb4 hg5
  have hl1 := Nat.lt_of_lt_of_le hw4 hg5.size
  have hl2 := Nat.lt_of_lt_of_le n3 hg5.size
  have HS5 := Lib.hid hS5
  have HB5 := Lib.hid hb5
  have HM := Lib.hid (show _ ∧ _ ∧ _ from ⟨m1, m2, m3⟩)
  clear n0 n1 n2 n3 n4 k0 k1 k2 k3 hg5 hb4 hS4 hS5 hb5
  obtain ⟨⟨mp1, mp2⟩, ⟨mq1, mq2⟩, ⟨my1, my2⟩⟩ := HM.out
  have hw3w : w.heap.size < w3.heap.size := hw3
  obtain ⟨⟨mp1, mp2⟩, ⟨mq1, mq2⟩, ⟨my1, my2⟩⟩ := HM.out
  have hw3w : w.heap.size < w3.heap.size := hw3
  have hSw5 := (Src_le HS5.out).2.2
  by_cases c0 : r = 0
  · subst c0
    clear hr0 hr1
    go_wp2_with fail
    obtain ⟨t1, t2, t3, t4, t5⟩ := set1F (F := w3.heap.size) (i := 2) (v := .int .i64 (y + 1)) HS5.out HB5.out hFn hw3w hB0 r0 r1 r2
    obtain ⟨e0, e1, e2, hSf, hkf⟩ := fin3 t1 t2 hwn hB0 p q (y + 1) t3 t4 t5
    refine bodyPost_ret (v := .agg #[.int .i64 p, .int .i64 q, .int .i64 (y + 1)]) (by simp [results, Try.results48, go_sem, e0, e1, e2]) rfl ⟨p, q, (y + 1), rfl, by omega, by omega, by omega, hSf, hkf⟩
  by_cases c1 : r = 1
  · subst c1
    clear hr0 hr1 c0
    have ho := Ow.lit (K := .i64) (E := 2) (xs := [0, 1, 2, 9]) (B := w5.heap.size) w5 (Nat.le_refl _) (by decide)
    have hal : Below w5.heap.size w5 (w5.alloc (.cells (ints .i64 [0, 1, 2, 9]).toArray 2)) := Below.alloc (Below.refl _ _) (Nat.le_refl _) _
    have hS6 := src_keep HS5.out hal
    have hb6 := keeps_trans HB5.out (keeps_below (S := S) hal)
    have k0 := (hal.cell (p := ⟨w.heap.size, 0, none⟩) hl1).trans r0
    have k1 := (hal.cell (p := ⟨w.heap.size, 1, none⟩) hl1).trans r1
    have k2 := (hal.cell (p := ⟨w.heap.size, 2, none⟩) hl1).trans r2
    have k3 := fun i => (hal.frozen (p := ⟨w.heap.size, i, none⟩) hl1).trans (r3 i)
    have j0 := (hal.cell (p := ⟨w3.heap.size, 0, none⟩) hl2).trans f0
    have j1 := (hal.cell (p := ⟨w3.heap.size, 1, none⟩) hl2).trans f1
    have j2 := (hal.cell (p := ⟨w3.heap.size, 2, none⟩) hl2).trans f2
    have j3 := fun i => (hal.frozen (p := ⟨w3.heap.size, i, none⟩) hl2).trans (f3 i)
    have hl3 : w.heap.size < (w5.alloc (.cells (ints .i64 [0, 1, 2, 9]).toArray 2)).heap.size := Nat.lt_of_lt_of_le hl1 hal.size
    have hl4 : w3.heap.size < (w5.alloc (.cells (ints .i64 [0, 1, 2, 9]).toArray 2)).heap.size := Nat.lt_of_lt_of_le hl2 hal.size
    clear hal f0 f1 f2 f3 r0 r1 r2 r3
    go_wp2_with fail
    refine (l01Next_any _ S 4 _ hS6 (by omega)).mono ?_
    rintro e w6 ⟨r, rfl, hr0, hr1, hS7, hg7⟩
    obtain ⟨k, rfl⟩ := Int.eq_ofNat_of_zero_le hr0
    have hk : k < 4 := by omega
    have ho3 := Ow.sep (a' := some ⟨S, 0, none⟩) ho hg7 (fun g h1 h2 => by simp [blk] at h1 h2; omega)
    obtain ⟨x, hx⟩ : ∃ x, ([0, 1, 2, 9] : List Int)[k]? = some x := ⟨_, List.getElem?_eq_getElem (by simpa using hk)⟩
    have hcell := ho3.cell hx
    have hxm := List.mem_of_getElem? hx
    have hxf : -2000 ≤ x ∧ x ≤ 2000 := by
      simp only [List.mem_cons, List.not_mem_nil, or_false] at hxm
      omega
    have b1 : (0 : Int) ≤ (k : Int) := by omega
    have b2 : (k : Int) < 4 := by omega
    have q0 := (gcell hg7 hl3 hwn 0).1.trans k0
    have q1 := (gcell hg7 hl3 hwn 1).1.trans k1
    have q2 := (gcell hg7 hl3 hwn 2).1.trans k2
    have q3 := fun i => (gcell hg7 hl3 hwn i).2.trans (k3 i)
    have i0 := (gcell hg7 hl4 hFn 0).1.trans j0
    have i1 := (gcell hg7 hl4 hFn 1).1.trans j1
    have i2 := (gcell hg7 hl4 hFn 2).1.trans j2
    have i3 := fun i => (gcell hg7 hl4 hFn i).2.trans (j3 i)
    have hb7 := keeps_trans hb6 hg7
    have HS7 := Lib.hid hS7
    have HB7 := Lib.hid hb7
    clear hl3 hl4 ho3 hr1 hr0 hx hxm ho hg7 hS6 hb6 k0 k1 k2 k3 j0 j1 j2 j3 hS7 hb7
    go_wp2_with fail
    obtain ⟨t1, t2, t3, t4, t5⟩ := set1F (F := w3.heap.size) (i := 1) (v := .int .i64 x) HS7.out HB7.out hFn hw3w hB0 q0 q1 q2
    obtain ⟨e0, e1, e2, hSf, hkf⟩ := fin3 t1 t2 hwn hB0 p x y t3 t4 t5
    refine bodyPost_ret (v := .agg #[.int .i64 p, .int .i64 x, .int .i64 y]) (by simp [results, Try.results48, go_sem, e0, e1, e2]) rfl ⟨p, x, y, rfl, by omega, by omega, by omega, hSf, hkf⟩
  by_cases c2 : r = 2
  · subst c2
    clear hr0 hr1 c0 c1
    have ho := Ow.lit (K := .i64) (E := 2) (xs := [1, 4, 9, 1021, 1031, -3]) (B := w5.heap.size) w5 (Nat.le_refl _) (by decide)
    have hal : Below w5.heap.size w5 (w5.alloc (.cells (ints .i64 [1, 4, 9, 1021, 1031, -3]).toArray 2)) := Below.alloc (Below.refl _ _) (Nat.le_refl _) _
    have hS6 := src_keep HS5.out hal
    have hb6 := keeps_trans HB5.out (keeps_below (S := S) hal)
    have k0 := (hal.cell (p := ⟨w.heap.size, 0, none⟩) hl1).trans r0
    have k1 := (hal.cell (p := ⟨w.heap.size, 1, none⟩) hl1).trans r1
    have k2 := (hal.cell (p := ⟨w.heap.size, 2, none⟩) hl1).trans r2
    have k3 := fun i => (hal.frozen (p := ⟨w.heap.size, i, none⟩) hl1).trans (r3 i)
    have j0 := (hal.cell (p := ⟨w3.heap.size, 0, none⟩) hl2).trans f0
    have j1 := (hal.cell (p := ⟨w3.heap.size, 1, none⟩) hl2).trans f1
    have j2 := (hal.cell (p := ⟨w3.heap.size, 2, none⟩) hl2).trans f2
    have j3 := fun i => (hal.frozen (p := ⟨w3.heap.size, i, none⟩) hl2).trans (f3 i)
    have hl3 : w.heap.size < (w5.alloc (.cells (ints .i64 [1, 4, 9, 1021, 1031, -3]).toArray 2)).heap.size := Nat.lt_of_lt_of_le hl1 hal.size
    have hl4 : w3.heap.size < (w5.alloc (.cells (ints .i64 [1, 4, 9, 1021, 1031, -3]).toArray 2)).heap.size := Nat.lt_of_lt_of_le hl2 hal.size
    clear hal f0 f1 f2 f3 r0 r1 r2 r3
    go_wp2_with fail
    refine (l01Next_any _ S 6 _ hS6 (by omega)).mono ?_
    rintro e w6 ⟨r, rfl, hr0, hr1, hS7, hg7⟩
    obtain ⟨k, rfl⟩ := Int.eq_ofNat_of_zero_le hr0
    have hk : k < 6 := by omega
    have ho3 := Ow.sep (a' := some ⟨S, 0, none⟩) ho hg7 (fun g h1 h2 => by simp [blk] at h1 h2; omega)
    obtain ⟨x, hx⟩ : ∃ x, ([1, 4, 9, 1021, 1031, -3] : List Int)[k]? = some x := ⟨_, List.getElem?_eq_getElem (by simpa using hk)⟩
    have hcell := ho3.cell hx
    have hxm := List.mem_of_getElem? hx
    have hxf : -2000 ≤ x ∧ x ≤ 2000 := by
      simp only [List.mem_cons, List.not_mem_nil, or_false] at hxm
      omega
    have b1 : (0 : Int) ≤ (k : Int) := by omega
    have b2 : (k : Int) < 6 := by omega
    have q0 := (gcell hg7 hl3 hwn 0).1.trans k0
    have q1 := (gcell hg7 hl3 hwn 1).1.trans k1
    have q2 := (gcell hg7 hl3 hwn 2).1.trans k2
    have q3 := fun i => (gcell hg7 hl3 hwn i).2.trans (k3 i)
    have i0 := (gcell hg7 hl4 hFn 0).1.trans j0
    have i1 := (gcell hg7 hl4 hFn 1).1.trans j1
    have i2 := (gcell hg7 hl4 hFn 2).1.trans j2
    have i3 := fun i => (gcell hg7 hl4 hFn i).2.trans (j3 i)
    have hb7 := keeps_trans hb6 hg7
    have HS7 := Lib.hid hS7
    have HB7 := Lib.hid hb7
    clear hl3 hl4 ho3 hr1 hr0 hx hxm ho hg7 hS6 hb6 k0 k1 k2 k3 j0 j1 j2 j3 hS7 hb7
    go_wp2_with fail
    obtain ⟨t1, t2, t3, t4, t5⟩ := set1F (F := w3.heap.size) (i := 0) (v := .int .i64 x) HS7.out HB7.out hFn hw3w hB0 q0 q1 q2
    obtain ⟨e0, e1, e2, hSf, hkf⟩ := fin3 t1 t2 hwn hB0 x q y t3 t4 t5
    refine bodyPost_ret (v := .agg #[.int .i64 x, .int .i64 q, .int .i64 y]) (by simp [results, Try.results48, go_sem, e0, e1, e2]) rfl ⟨x, q, y, rfl, by omega, by omega, by omega, hSf, hkf⟩
  by_cases c3 : r = 3
  · subst c3
    clear hr0 hr1 c0 c1 c2
    have hal : Below w5.heap.size w5 (w5.alloc (.cells #[.int .i64 1021, .int .i64 1, .int .i64 10, .int .i64 2, .int .i64 4, .int .i64 31, .int .i64 2, .int .i64 4, .int .i64 25, .int .i64 7, .int .i64 1, .int .i64 5] 36)) := Below.alloc (Below.refl _ _) (Nat.le_refl _) _
    have hS6 := src_keep HS5.out hal
    have hb6 := keeps_trans HB5.out (keeps_below (S := S) hal)
    have z (j : Nat) : (w5.alloc (.cells #[.int .i64 1021, .int .i64 1, .int .i64 10, .int .i64 2, .int .i64 4, .int .i64 31, .int .i64 2, .int .i64 4, .int .i64 25, .int .i64 7, .int .i64 1, .int .i64 5] 36)).cell? ⟨w5.heap.size, j, none⟩ = (#[.int .i64 1021, .int .i64 1, .int .i64 10, .int .i64 2, .int .i64 4, .int .i64 31, .int .i64 2, .int .i64 4, .int .i64 25, .int .i64 7, .int .i64 1, .int .i64 5] : Array Value)[j]? := cell_new w5 _ _ j
    have hnl : w5.heap.size < (w5.alloc (.cells #[.int .i64 1021, .int .i64 1, .int .i64 10, .int .i64 2, .int .i64 4, .int .i64 31, .int .i64 2, .int .i64 4, .int .i64 25, .int .i64 7, .int .i64 1, .int .i64 5] 36)).heap.size := by simp
    have k0 := (hal.cell (p := ⟨w.heap.size, 0, none⟩) hl1).trans r0
    have k1 := (hal.cell (p := ⟨w.heap.size, 1, none⟩) hl1).trans r1
    have k2 := (hal.cell (p := ⟨w.heap.size, 2, none⟩) hl1).trans r2
    have k3 := fun i => (hal.frozen (p := ⟨w.heap.size, i, none⟩) hl1).trans (r3 i)
    have j0 := (hal.cell (p := ⟨w3.heap.size, 0, none⟩) hl2).trans f0
    have j1 := (hal.cell (p := ⟨w3.heap.size, 1, none⟩) hl2).trans f1
    have j2 := (hal.cell (p := ⟨w3.heap.size, 2, none⟩) hl2).trans f2
    have j3 := fun i => (hal.frozen (p := ⟨w3.heap.size, i, none⟩) hl2).trans (f3 i)
    have hl3 : w.heap.size < (w5.alloc (.cells #[.int .i64 1021, .int .i64 1, .int .i64 10, .int .i64 2, .int .i64 4, .int .i64 31, .int .i64 2, .int .i64 4, .int .i64 25, .int .i64 7, .int .i64 1, .int .i64 5] 36)).heap.size := Nat.lt_of_lt_of_le hl1 hal.size
    have hl4 : w3.heap.size < (w5.alloc (.cells #[.int .i64 1021, .int .i64 1, .int .i64 10, .int .i64 2, .int .i64 4, .int .i64 31, .int .i64 2, .int .i64 4, .int .i64 25, .int .i64 7, .int .i64 1, .int .i64 5] 36)).heap.size := Nat.lt_of_lt_of_le hl2 hal.size
    have hn5 : w5.heap.size ≠ S := by omega
    have z0 := (z 0).trans rfl
    have z1 := (z 1).trans rfl
    have z2 := (z 2).trans rfl
    have z3 := (z 3).trans rfl
    have z4 := (z 4).trans rfl
    have z5 := (z 5).trans rfl
    have z6 := (z 6).trans rfl
    have z7 := (z 7).trans rfl
    have z8 := (z 8).trans rfl
    have z9 := (z 9).trans rfl
    have z10 := (z 10).trans rfl
    have z11 := (z 11).trans rfl
    clear hal f0 f1 f2 f3 r0 r1 r2 r3 z
    go_wp2_with fail
    refine (l01Next_any _ S 4 _ hS6 (by omega)).mono ?_
    rintro e w6 ⟨r, rfl, hr0, hr1, hS7, hg7⟩
    have q0 := (gcell hg7 hl3 hwn 0).1.trans k0
    have q1 := (gcell hg7 hl3 hwn 1).1.trans k1
    have q2 := (gcell hg7 hl3 hwn 2).1.trans k2
    have q3 := fun i => (gcell hg7 hl3 hwn i).2.trans (k3 i)
    have i0 := (gcell hg7 hl4 hFn 0).1.trans j0
    have i1 := (gcell hg7 hl4 hFn 1).1.trans j1
    have i2 := (gcell hg7 hl4 hFn 2).1.trans j2
    have i3 := fun i => (gcell hg7 hl4 hFn i).2.trans (j3 i)
    have hb7 := keeps_trans hb6 hg7
    have HS7 := Lib.hid hS7
    have HB7 := Lib.hid hb7
    have hr : r = 0 ∨ r = 1 ∨ r = 2 ∨ r = 3 := by clear hnl hl3 hl4 hl1 hl2 hn5; omega
    rcases hr with rfl | rfl | rfl | rfl
    · clear hr0 hr1 hS6 hb6 k0 k1 k2 k3 j0 j1 j2 j3 hS7 hb7
      have y0 := (gcell hg7 hnl hn5 0).1.trans z0
      have y1 := (gcell hg7 hnl hn5 1).1.trans z1
      have y2 := (gcell hg7 hnl hn5 2).1.trans z2
      clear hnl hl3 hl4 hg7 z0 z1 z2 z3 z4 z5 z6 z7 z8 z9 z10 z11
      go_wp2_with fail
      obtain ⟨e0, e1, e2, hSf, hkf⟩ := fin3 HS7.out HB7.out hwn hB0 1021 1 10 q0 q1 q2
      refine bodyPost_ret (v := .agg #[.int .i64 1021, .int .i64 1, .int .i64 10]) (by simp [results, Try.results48, go_sem, e0, e1, e2]) rfl ⟨1021, 1, 10, rfl, by decide, by decide, by decide, hSf, hkf⟩
    · clear hr0 hr1 hS6 hb6 k0 k1 k2 k3 j0 j1 j2 j3 hS7 hb7
      have y0 := (gcell hg7 hnl hn5 3).1.trans z3
      have y1 := (gcell hg7 hnl hn5 4).1.trans z4
      have y2 := (gcell hg7 hnl hn5 5).1.trans z5
      clear hnl hl3 hl4 hg7 z0 z1 z2 z3 z4 z5 z6 z7 z8 z9 z10 z11
      go_wp2_with fail
      obtain ⟨e0, e1, e2, hSf, hkf⟩ := fin3 HS7.out HB7.out hwn hB0 2 4 31 q0 q1 q2
      refine bodyPost_ret (v := .agg #[.int .i64 2, .int .i64 4, .int .i64 31]) (by simp [results, Try.results48, go_sem, e0, e1, e2]) rfl ⟨2, 4, 31, rfl, by decide, by decide, by decide, hSf, hkf⟩
    · clear hr0 hr1 hS6 hb6 k0 k1 k2 k3 j0 j1 j2 j3 hS7 hb7
      have y0 := (gcell hg7 hnl hn5 6).1.trans z6
      have y1 := (gcell hg7 hnl hn5 7).1.trans z7
      have y2 := (gcell hg7 hnl hn5 8).1.trans z8
      clear hnl hl3 hl4 hg7 z0 z1 z2 z3 z4 z5 z6 z7 z8 z9 z10 z11
      go_wp2_with fail
      obtain ⟨e0, e1, e2, hSf, hkf⟩ := fin3 HS7.out HB7.out hwn hB0 2 4 25 q0 q1 q2
      refine bodyPost_ret (v := .agg #[.int .i64 2, .int .i64 4, .int .i64 25]) (by simp [results, Try.results48, go_sem, e0, e1, e2]) rfl ⟨2, 4, 25, rfl, by decide, by decide, by decide, hSf, hkf⟩
    · clear hr0 hr1 hS6 hb6 k0 k1 k2 k3 j0 j1 j2 j3 hS7 hb7
      have y0 := (gcell hg7 hnl hn5 9).1.trans z9
      have y1 := (gcell hg7 hnl hn5 10).1.trans z10
      have y2 := (gcell hg7 hnl hn5 11).1.trans z11
      clear hnl hl3 hl4 hg7 z0 z1 z2 z3 z4 z5 z6 z7 z8 z9 z10 z11
      go_wp2_with fail
      obtain ⟨e0, e1, e2, hSf, hkf⟩ := fin3 HS7.out HB7.out hwn hB0 7 1 5 q0 q1 q2
      refine bodyPost_ret (v := .agg #[.int .i64 7, .int .i64 1, .int .i64 5]) (by simp [results, Try.results48, go_sem, e0, e1, e2]) rfl ⟨7, 1, 5, rfl, by decide, by decide, by decide, hSf, hkf⟩
  · have d0 : (r == 0) = false := by rw [beq_eq_false_iff_ne]; exact c0
    have d1 : (r == 1) = false := by rw [beq_eq_false_iff_ne]; exact c1
    have d2 : (r == 2) = false := by rw [beq_eq_false_iff_ne]; exact c2
    have d3 : (r == 3) = false := by rw [beq_eq_false_iff_ne]; exact c3
    clear hr0 hr1 c0 c1 c2 c3
    go_wp2_with fail
    obtain ⟨e0, e1, e2, hSf, hkf⟩ := fin3 HS5.out HB5.out hwn hB0 p q y r0 r1 r2
    refine bodyPost_ret (v := .agg #[.int .i64 p, .int .i64 q, .int .i64 y]) (by simp [results, Try.results48, go_sem, e0, e1, e2]) rfl ⟨p, q, y, rfl, by omega, by omega, by omega, hSf, hkf⟩
end Go.Proofs.Ytnajjofaijpciaa
