/-
  Contract: the reference's reading of a segment.
  Conditions: lists of bits.
-/
import Derived.Test.YtnajjofaijpciaaMg14
set_option linter.unusedVariables false
namespace Go.Proofs.Ytnajjofaijpciaa
open Go.RowKit Go.G8
def segRes (r : Option (Int × List Int × Nat)) : Value :=
  match r with
  | none => .tuple #[.agg #[.int .i64 0, .string ⟨#[]⟩], .int .i64 0, .bool false]
  | some (m, t, nx) => .tuple #[.agg #[.int .i64 m, .string (strOfNums t)], .int .i64 nx, .bool true]
theorem rSeg_short {xs : List Int} {at_ : Nat} (h : xs.length < at_ + 11) : rSeg xs at_ = none := by unfold rSeg; rw [if_pos h]
theorem rSeg_no {xs : List Int} {at_ : Nat} (h : ¬ (1 ≤ num (bpart xs at_ 3) ∧ num (bpart xs at_ 3) ≤ 4 ∧ num (bpart xs (at_ + 3) 8) ≠ 0 ∧ (at_ : Int) + gLen (num (bpart xs at_ 3)) (num (bpart xs (at_ + 3) 8)).toNat ≤ xs.length)) : rSeg xs at_ = none := by
  unfold rSeg
  by_cases hl : xs.length < at_ + 11
  · rw [if_pos hl]
  · rw [if_neg hl, if_neg h]
theorem bpart_bd {xs : List Int} (h : ∀ x ∈ xs, x = 0 ∨ x = 1) (i k : Nat) (hk : i + k ≤ xs.length) : 0 ≤ num (bpart xs i k) ∧ num (bpart xs i k) < 2 ^ k := by
  have hl : (bpart xs i k).length = k := by unfold bpart; simp; omega
  have := num_bd (bpart xs i k) (fun x hx => h x (List.mem_of_mem_drop (List.mem_of_mem_take hx)))
  rw [hl] at this
  exact this
theorem new_two (wr : World) (a b : Value) (T : TypeId) :
    (wr.alloc (.cells #[a, b] T)).cell? ⟨wr.heap.size, 0, none⟩ = some a ∧ (wr.alloc (.cells #[a, b] T)).cell? ⟨wr.heap.size, 1, none⟩ = some b ∧ wr.heap.size < (wr.alloc (.cells #[a, b] T)).heap.size := by
  refine ⟨?_, ?_, by simp⟩ <;> rw [cell_of_row _ _ _ _ _ (0, 0) (heap_alloc_new wr _)] <;> rfl
theorem gWidth_bd (m x : Int) : 0 ≤ gWidth m x ∧ gWidth m x ≤ 11 := by
  unfold gWidth
  repeat' split
  all_goals omega
theorem gLen_bd {m : Int} (h : 1 ≤ m ∧ m ≤ 4) {n : Nat} (hn : n ≤ 255) : 0 ≤ gLen m n ∧ gLen m n ≤ 100000 := by
  have hi : ∀ (p : Prop) [Decidable p] (x : Int), 0 ≤ (if p then gWidth m x else 0) ∧ (if p then gWidth m x else 0) ≤ 11 := by
    intro p _ x
    have := gWidth_bd m x
    split <;> omega
  have e : gLen m n = gText m n + 11 := by unfold gText; omega
  rw [e]
  rcases mode_cases h with rfl | rfl | rfl | rfl
  · rw [gText_1]; have := hi (0 < (n : Int) % 3) ((n : Int) % 3); omega
  · rw [gText_2]; have := hi (0 < (n : Int) % 2) ((n : Int) % 2); omega
  · rw [gText_3]; omega
  · rw [gText_4]; omega
theorem keep2 {W W' : World} {b : Nat} {u0 u1 : Value} (hb : Below W.heap.size W W') (hlt : b < W.heap.size) (c0 : W.cell? ⟨b, 0, none⟩ = some u0) (c1 : W.cell? ⟨b, 1, none⟩ = some u1) : W'.cell? ⟨b, 0, none⟩ = some u0 ∧ W'.cell? ⟨b, 1, none⟩ = some u1 := by
  obtain ⟨hcc, hff⟩ := bcell hb
  exact ⟨(hcc _ 0 hlt).trans c0, (hcc _ 1 hlt).trans c1⟩
theorem keep2f {W W' : World} {b : Nat} (hb : Below W.heap.size W W') (hlt : b < W.heap.size) (hz : ∀ i, W.frozen? ⟨b, i, none⟩ = false) : ∀ i, W'.frozen? ⟨b, i, none⟩ = false := by
  obtain ⟨hcc, hff⟩ := bcell hb
  exact fun i => (hff _ i hlt).trans (hz i)
theorem set2_end {w W : World} (x y : Value) {u0 u1 : Value} (hB : Below w.heap.size w W) (hlt : w.heap.size < W.heap.size) (c0 : W.cell? ⟨w.heap.size, 0, none⟩ = some u0) (c1 : W.cell? ⟨w.heap.size, 1, none⟩ = some u1) :
    ((W.setCell ⟨w.heap.size, 0, none⟩ x).setCell ⟨w.heap.size, 1, none⟩ y).cell? ⟨w.heap.size, 0, none⟩ = some x ∧ ((W.setCell ⟨w.heap.size, 0, none⟩ x).setCell ⟨w.heap.size, 1, none⟩ y).cell? ⟨w.heap.size, 1, none⟩ = some y ∧ Below w.heap.size w ((W.setCell ⟨w.heap.size, 0, none⟩ x).setCell ⟨w.heap.size, 1, none⟩ y) := by
  have hn : (⟨w.heap.size, 0, none⟩ : Addr) ≠ ⟨w.heap.size, 1, none⟩ := by intro e; injection e; omega
  have d1 : (W.setCell ⟨w.heap.size, 0, none⟩ x).cell? ⟨w.heap.size, 1, none⟩ = some u1 := by rw [World.cell?_setCell_other _ _ _ _ (by intro e; injection e; omega)]; exact c1
  refine ⟨?_, World.cell?_setCell_same _ _ _ d1, ?_⟩
  · rw [World.cell?_setCell_other _ _ _ _ (by intro e; injection e; omega)]
    exact World.cell?_setCell_same _ _ _ c0
  · exact (hB.setCell (by simp) _).setCell (by simp) _
theorem gMod {M V v : Int} {T Wd : Nat} (h : 1 ≤ M ∧ M ≤ 4) (h0 : 0 ≤ v) (hV : V < 2 ^ Wd) (hv : v ≤ V) (hw : gWidth M T = (Wd : Int)) :
    Int.tmod v (gBase M) = v % gCap M ∧ Int.tdiv v (gBase M) = v / gCap M ∧ 0 < gBase M ∧ gBase M ≤ 256 := by
  rcases mode_cases h with rfl | rfl | rfl | rfl
  · exact ⟨Int.tmod_eq_emod_of_nonneg h0, Int.tdiv_eq_ediv_of_nonneg h0, by decide, by decide⟩
  · exact ⟨Int.tmod_eq_emod_of_nonneg h0, Int.tdiv_eq_ediv_of_nonneg h0, by decide, by decide⟩
  · have e : Wd = 5 := by have : gWidth 3 T = 5 := rfl; omega
    subst e
    show Int.tmod v 256 = v % 32 ∧ Int.tdiv v 256 = v / 32 ∧ (0 : Int) < 256 ∧ (256 : Int) ≤ 256
    rw [Int.tmod_eq_emod_of_nonneg h0, Int.tdiv_eq_ediv_of_nonneg h0]
    omega
  · exact ⟨Int.tmod_eq_emod_of_nonneg h0, Int.tdiv_eq_ediv_of_nonneg h0, by decide, by decide⟩
theorem segL_step {xs : List Int} {m : Int} {f n at_ T Wd : Nat} {V : Int} (hn : 1 ≤ n) (hT : gTake m n = T) (hW : gWidth m T = (Wd : Int)) (hV : num (bpart xs at_ Wd) = V) :
    segL xs m (f + 1) n at_ = if 0 < (gGroup m T V).2 then none else (segL xs m f (n - T) (at_ + Wd)).map fun r => ((gGroup m T V).1 ++ r.1, r.2) := by
  rw [segL, if_neg (by omega), hT, hW, Int.toNat_natCast, hV]
theorem rSeg_none {R : Option (Int × List Int × Nat)} {xs tl : List Int} {m : Int} {f n at_ T Wd : Nat} {V : Int} (HS : R = (segL xs m f n at_).map (fun r => (m, tl ++ r.1, r.2))) (hf : n ≤ f) (hn : 1 ≤ n) (hT : gTake m n = T) (hW : gWidth m T = (Wd : Int)) (hV : num (bpart xs at_ Wd) = V) (hp : 0 < (gGroup m T V).2) : R = none := by
  obtain ⟨f, rfl⟩ : ∃ k, f = k + 1 := ⟨f - 1, by omega⟩
  rw [HS, segL_step hn hT hW hV, if_pos hp]
  rfl
theorem rSeg_next {R : Option (Int × List Int × Nat)} {xs tl : List Int} {m : Int} {f n at_ T Wd : Nat} {V : Int} (HS : R = (segL xs m f n at_).map (fun r => (m, tl ++ r.1, r.2))) (hf : n ≤ f) (hn : 1 ≤ n) (hT : gTake m n = T) (hW : gWidth m T = (Wd : Int)) (hV : num (bpart xs at_ Wd) = V) (hp : ¬ 0 < (gGroup m T V).2) : R = (segL xs m (f - 1) (n - T) (at_ + Wd)).map (fun r => (m, (tl ++ (gGroup m T V).1) ++ r.1, r.2)) := by
  obtain ⟨f, rfl⟩ : ∃ k, f = k + 1 := ⟨f - 1, by omega⟩
  rw [HS, segL_step hn hT hW hV, if_neg hp, Option.map_map, Nat.add_sub_cancel]
  congr 1
  funext r
  simp [Function.comp]
theorem get_front (k : Nat) (l : List Int) : (List.replicate (k + 1) (0 : Int) ++ l)[k]? = some 0 := by
  rw [List.getElem?_append_left (by simp), List.getElem?_replicate, if_pos (by omega)]
theorem pow11 {k : Nat} (h : k ≤ 11) : (2 : Int) ^ k ≤ 2048 := by
  have h1 := Nat.pow_le_pow_right (show 0 < 2 by omega) h
  have h2 : ((2 ^ k : Nat) : Int) = (2 : Int) ^ k := by rw [Int.natCast_pow]; rfl
  omega
theorem fits_u8 {x : Int} (h0 : 0 ≤ x) (h1 : x ≤ 255) : fits .u8 x := by
  unfold fits
  simp
  omega
theorem chr_at1 : ∀ k, k < 10 → 0 ≤ (gChars 1).getD k 0 ∧ (gChars 1).getD k 0 ≤ 255 := by decide
theorem chr_at2 : ∀ k, k < 45 → 0 ≤ (gChars 2).getD k 0 ∧ (gChars 2).getD k 0 ≤ 255 := by decide
theorem chr_at3 : ∀ k, k < 32 → 0 ≤ (gChars 3).getD k 0 ∧ (gChars 3).getD k 0 ≤ 255 := by decide
theorem chr_bd {m x : Int} (h : 1 ≤ m ∧ m ≤ 4) (h0 : 0 ≤ x) (h1 : x < gCap m) : 0 ≤ chr m x ∧ chr m x ≤ 255 := by
  rcases mode_cases h with rfl | rfl | rfl | rfl
  · have : x < 10 := h1
    exact chr_at1 x.toNat (by omega)
  · have : x < 45 := h1
    exact chr_at2 x.toNat (by omega)
  · have : x < 32 := h1
    exact chr_at3 x.toNat (by omega)
  · have e : x < 256 := h1
    show 0 ≤ x ∧ x ≤ 255
    omega
theorem gGroup_bd {m : Int} (h : 1 ≤ m ∧ m ≤ 4) (j : Nat) {v : Int} (hv : 0 ≤ v) : ∀ x ∈ (gGroup m j v).1, 0 ≤ x ∧ x ≤ 255 := by
  have hc := gCap_pos h
  induction j with
  | zero => intro x hx; cases hx
  | succ j ih =>
    intro x hx
    rcases List.mem_cons.1 hx with rfl | hx
    · exact chr_bd h (Int.emod_nonneg _ (by omega)) (Int.emod_lt_of_pos _ (by omega))
    · exact ih x hx
set_option maxHeartbeats 1000000 in
set_option maxRecDepth 20000 in
theorem l09Read_any (a : Option Addr) (n c at_ : Nat) (xs : List Int) (w : World) (h : Rd .i64 w a n xs) (hb : Hid (∀ x ∈ xs, x = 0 ∨ x = 1)) (hn : n ≤ 8192) (hat : at_ ≤ n) :
    Calls Try.prog 31 #[.slice a n c, .int .i64 at_] w (Ret (segRes (rSeg xs at_)) w) := by
  have e1 : IntKind.i64.wrap ((at_ : Int) + 3) = (at_ : Int) + 3 := IntWalk.i64_in _ (by omega)
  have e2 : IntKind.i64.wrap ((at_ : Int) + 3 + 8) = (at_ : Int) + 11 := (IntWalk.i64_in _ (by omega)).trans (by omega)
  have hlen := h.len
  obtain ⟨z0, z1, z2⟩ := new_two w (.int .i64 0) (.string ⟨#[]⟩) 24
  have hal : Below w.heap.size w (w.alloc (.cells #[.int .i64 0, .string ⟨#[]⟩] 24)) := Below.alloc (Below.refl _ _) (Nat.le_refl _) _
  have zf : ∀ i, (w.alloc (.cells #[.int .i64 0, .string ⟨#[]⟩] 24)).frozen? ⟨w.heap.size, i, none⟩ = false := fun i => frozen_of_row _ _ _ _ _ (heap_alloc_new w _)
  by_cases hl : n < at_ + 11
  · have hr := Lib.hid (rSeg_short (xs := xs) (at_ := at_) (by omega))
    go_enter Try.func31, Try.ntmps31
    go_wp2_with fail
    refine bodyPost_ret (v := .tuple #[.agg #[.int .i64 0, .string ⟨#[]⟩], .int .i64 0, .bool false]) (by simp [results, Try.results31, go_sem, z0, z1]) rfl ⟨?_, hal⟩
    rw [hr.out]
    rfl
  · have hd : decide ((n : Int) < (at_ : Int) + 11) = false := by simp; omega
    have HAl := Lib.hid hal
    have HR := Lib.hid (h.to hal)
    have HV := Lib.hid (fun (W : World) (hR : Rd .i64 W a n xs) => l01Number_any a n c xs at_ 3 W hR hb (by omega) (by omega) (by omega) (by omega) (by omega))
    have HU := Lib.hid (fun (W : World) (hR : Rd .i64 W a n xs) => l01Number_any a n c xs ((at_ : Int) + 3) 8 W hR hb (by omega) (by omega) (by omega) (by omega) (by omega))
    rw [show ((at_ : Int)).toNat = at_ from Int.toNat_natCast _, show (3 : Int).toNat = 3 from rfl] at HV
    rw [show ((at_ : Int) + 3).toNat = at_ + 3 by omega, show (8 : Int).toNat = 8 from rfl] at HU
    have hno := Lib.hid (rSeg_no (xs := xs) (at_ := at_))
    obtain ⟨M, hM⟩ : ∃ M, num (bpart xs at_ 3) = M := ⟨_, rfl⟩
    obtain ⟨N, hN⟩ : ∃ N, num (bpart xs (at_ + 3) 8) = N := ⟨_, rfl⟩
    rw [hM] at HV hno
    rw [hN] at HU hno
    have hMb : 0 ≤ M ∧ M < 8 := by have := bpart_bd hb.out at_ 3 (by omega); rw [hM] at this; exact this
    have hNb : 0 ≤ N ∧ N < 256 := by have := bpart_bd hb.out (at_ + 3) 8 (by omega); rw [hN] at this; exact this
    obtain ⟨K, rfl⟩ := Int.eq_ofNat_of_zero_le hNb.1
    have hK : K < 256 := by omega
    have H0 := Lib.hid h
    clear hal hNb h
    by_cases hm : ¬ (1 ≤ M ∧ M ≤ 4)
    · have hr := Lib.hid (hno.out (fun hh => hm ⟨hh.1, hh.2.1⟩))
      have hMb1 := hMb.1
      have hMb2 := hMb.2
      go_enter Try.func31, Try.ntmps31
      go_wp2_with fail
      refine (HV.out _ HR.out).mono ?_
      rintro e w1 ⟨rfl, rfl⟩
      go_wp2_with fail
      refine (HU.out _ HR.out).mono ?_
      rintro e w1 ⟨rfl, rfl⟩
      go_wp2_with fail
      refine (l01In_no M 1 4 _ hm).mono ?_
      rintro e w1 ⟨rfl, rfl⟩
      go_wp2_with fail
      refine bodyPost_ret (v := .tuple #[.agg #[.int .i64 0, .string ⟨#[]⟩], .int .i64 0, .bool false]) (by simp [results, Try.results31, go_sem, z0, z1]) rfl ⟨?_, HAl.out⟩
      rw [hr.out]
      rfl
    have hm : 1 ≤ M ∧ M ≤ 4 := Classical.not_not.1 hm
    by_cases hk0 : K = 0
    · subst hk0
      have hr := Lib.hid (hno.out (fun hh => hh.2.2.1 rfl))
      go_enter Try.func31, Try.ntmps31
      go_wp2_with fail
      refine (HV.out _ HR.out).mono ?_
      rintro e w1 ⟨rfl, rfl⟩
      go_wp2_with fail
      refine (HU.out _ HR.out).mono ?_
      rintro e w1 ⟨rfl, rfl⟩
      go_wp2_with fail
      refine (l01In_yes M 1 4 _ hm).mono ?_
      rintro e w1 ⟨rfl, rfl⟩
      go_wp2_with fail
      refine bodyPost_ret (v := .tuple #[.agg #[.int .i64 0, .string ⟨#[]⟩], .int .i64 0, .bool false]) (by simp [results, Try.results31, go_sem, z0, z1]) rfl ⟨?_, HAl.out⟩
      rw [hr.out]
      rfl
    have HLen := Lib.hid (fun w => l09Length_any M K w hm (by omega))
    have hkz : ((K : Int) == 0) = false := by rw [beq_eq_false_iff_ne]; omega
    by_cases hover : ¬ ((at_ : Int) + gLen M K ≤ n)
    · have hr := Lib.hid (hno.out (fun hh => hover (by have := hh.2.2.2; rw [hlen] at this; exact this)))
      have hgl := gLen_bd hm (n := K) (by omega)
      obtain ⟨G, hG⟩ : ∃ G, gLen M K = G := ⟨_, rfl⟩
      rw [hG] at HLen hgl hover
      obtain ⟨hg0, hg1⟩ := hgl
      have hgw : IntKind.i64.wrap ((at_ : Int) + G) = (at_ : Int) + G := IntWalk.i64_in _ (by omega)
      have hgd : decide ((n : Int) < (at_ : Int) + G) = true := by simp; omega
      go_enter Try.func31, Try.ntmps31
      go_wp2_with fail
      refine (HV.out _ HR.out).mono ?_
      rintro e w1 ⟨rfl, rfl⟩
      go_wp2_with fail
      refine (HU.out _ HR.out).mono ?_
      rintro e w1 ⟨rfl, rfl⟩
      go_wp2_with fail
      refine (l01In_yes M 1 4 _ hm).mono ?_
      rintro e w1 ⟨rfl, rfl⟩
      go_wp2_with fail
      refine (HLen.out _).mono ?_
      rintro e w1 ⟨rfl, hb1⟩
      obtain ⟨y0, y1⟩ := keep2 hb1 z2 z0 z1
      have yz := keep2f hb1 z2 zf
      obtain ⟨x0, x1, x2⟩ := set2_end (.int .i64 0) (.string ⟨#[]⟩) (bt HAl.out hb1) (Nat.lt_of_lt_of_le z2 hb1.size) y0 y1
      have X2 := Lib.hid x2
      clear x2
      go_wp2_with fail
      refine bodyPost_ret (v := .tuple #[.agg #[.int .i64 0, .string ⟨#[]⟩], .int .i64 0, .bool false]) (by simp [results, Try.results31, go_sem, x0, x1]) rfl ⟨?_, X2.out⟩
      rw [hr.out]
      rfl
    · have hover : (at_ : Int) + gLen M K ≤ n := Classical.not_not.1 hover
      have hgl := gLen_bd hm (n := K) (by omega)
      obtain ⟨G, hG⟩ : ∃ G, gLen M K = G := ⟨_, rfl⟩
      rw [hG] at HLen hgl hover
      obtain ⟨hg0, hg1⟩ := hgl
      have hgw : IntKind.i64.wrap ((at_ : Int) + G) = (at_ : Int) + G := IntWalk.i64_in _ (by omega)
      have hgd : decide ((n : Int) < (at_ : Int) + G) = false := by simp; omega
      go_enter Try.func31, Try.ntmps31
      go_wp2_with fail
      refine (HV.out _ HR.out).mono ?_
      rintro e w1 ⟨rfl, rfl⟩
      go_wp2_with fail
      refine (HU.out _ HR.out).mono ?_
      rintro e w1 ⟨rfl, rfl⟩
      go_wp2_with fail
      refine (l01In_yes M 1 4 _ hm).mono ?_
      rintro e w1 ⟨rfl, rfl⟩
      go_wp2_with fail
      refine (HLen.out _).mono ?_
      rintro e w1 ⟨rfl, hb1⟩
      obtain ⟨y0, y1⟩ := keep2 hb1 z2 z0 z1
      have yz := keep2f hb1 z2 zf
      have hR1 := HR.out.to hb1
      have HB1 := Lib.hid (bt HAl.out hb1)
      have hlt1 := Nat.lt_of_lt_of_le z2 hb1.size
      clear hb1 z0 z1 zf
      go_wp2_with fail
      refine (l09Group_any M _ hm).mono ?_
      rintro e w2 ⟨rfl, rfl⟩
      go_wp2_with fail
      have hs0 : rSeg xs at_ = (segL xs M K K (at_ + 11)).map (fun r => (M, [] ++ r.1, r.2)) := by
        unfold rSeg
        rw [if_neg (by omega), hM, hN, Int.toNat_natCast, if_pos ⟨hm.1, hm.2, by omega, by rw [hlen]; omega⟩]
        rfl
      have HSeg := Lib.hid hs0
      clear hs0
      have hOw : Ow .u8 5 (w.heap.size + 1) (w1.alloc (.cells #[] 5)) (some ⟨w1.heap.size, 0, none⟩) 0 0 [] := Ow.empty _ _ _ w1 (by omega)
      go_loopw [1, 12, 13] (fun A tx i wr => ∃ (f j A' : Nat) (a' : Option Addr) (n' c' : Nat) (tl : List Int), A = .int .i64 A' ∧ i = .int .i64 j ∧ tx = .slice a' n' c' ∧ K - j ≤ f ∧ j ≤ K + 3 ∧ n' ≤ j ∧ Hid (rSeg xs at_ = (segL xs M f (K - j) A').map (fun r => (M, tl ++ r.1, r.2))) ∧ Ow .u8 5 (w.heap.size + 1) wr a' n' c' tl ∧ Below w.heap.size w wr ∧ w.heap.size < wr.heap.size ∧ wr.cell? ⟨w.heap.size, 0, none⟩ = some (.int .i64 0) ∧ wr.cell? ⟨w.heap.size, 1, none⟩ = some (.string ⟨#[]⟩) ∧ (∀ i, wr.frozen? ⟨w.heap.size, i, none⟩ = false) ∧ (A' : Int) + gText M (K - j) ≤ n ∧ Rd .i64 wr a n xs) (fun _ _ i _ => K - (intOf i).toNat)
      case atStart =>
        have hA := Below.alloc (Below.refl w1.heap.size w1) (Nat.le_refl _) (.cells #[] 5)
        obtain ⟨x0, x1⟩ := keep2 hA hlt1 y0 y1
        exact ⟨K, 0, at_ + 11, _, 0, 0, [], by simp, by simp, rfl, by omega, by omega, Nat.le_refl _, HSeg, hOw, bt HB1.out hA, Nat.lt_of_lt_of_le hlt1 hA.size, x0, x1, keep2f hA hlt1 yz, by unfold gText; rw [Nat.sub_zero, hG]; omega, hR1.to hA⟩
      case round =>
        obtain ⟨wo, rfl⟩ : ∃ wo : World, wo = wr := ⟨_, rfl⟩
        obtain ⟨f, j, A', a', n', c', tl, rfl, rfl, rfl, hf, hj, hnj, HS, hown, hB, hlt, x0, x1, xz, hbd, hRd⟩ := hrel
        by_cases hjk : j < K
        · have hdj : decide ((j : Int) < (K : Int)) = true := by simp; omega
          obtain ⟨D, hD⟩ : ∃ D, K - j = D := ⟨_, rfl⟩
          rw [hD] at HS hbd hf
          have hD1 : 1 ≤ D := by omega
          have v1 : IntKind.i64.wrap ((K : Int) - (j : Int)) = (D : Int) := (IntWalk.i64_in _ (by omega)).trans (by omega)
          obtain ⟨hT1, hT2, hT3⟩ := gTake_pos hm hD1
          obtain ⟨hS1, hS2, hS3, hS4⟩ := gText_step hm hD1
          obtain ⟨T, hT⟩ : ∃ T, gTake M D = T := ⟨_, rfl⟩
          have hmin : min (gSize M) (D : Int) = (T : Int) := by
            rw [← hT]; unfold gTake
            have : 0 ≤ gSize M := by unfold gSize; split <;> (try split) <;> omega
            omega
          rw [hT] at hT1 hT2 hT3 hS1 hS2 hS3 hS4
          clear hdj
          have hdj : decide ((j : Int) < (K : Int)) = true := by simp; omega
          have HWd := Lib.hid (fun w => l09Width_any M T w hm ⟨by omega, hT3⟩)
          obtain ⟨Wd, hWd⟩ : ∃ Wd : Nat, gWidth M T = (Wd : Int) := Int.eq_ofNat_of_zero_le (by omega)
          rw [hWd] at HWd hS1 hS3 hS4
          have v2 : IntKind.i64.wrap ((A' : Int) + (Wd : Int)) = (A' : Int) + (Wd : Int) := IntWalk.i64_in _ (by omega)
          have HNum := Lib.hid (fun (W : World) (hR : Rd .i64 W a n xs) => l01Number_any a n c xs A' Wd W hR hb (by omega) (by omega) (by omega) (by omega) (by omega))
          rw [Int.toNat_natCast, Int.toNat_natCast] at HNum
          go_wp2_with fail
          all_goals (first | rw [show (D : Int) = (T : Int) by omega] | rw [show gSize M = (T : Int) by omega])
          all_goals refine (HWd.out _).mono ?_
          all_goals rintro e w2 ⟨rfl, hb2⟩
          all_goals have hR2 := hRd.to hb2
          all_goals obtain ⟨q0, q1⟩ := keep2 hb2 hlt x0 x1
          all_goals have qz := keep2f hb2 hlt xz
          all_goals have hown2 := hown.keep hb2
          all_goals have HB2 := Lib.hid (bt hB hb2)
          all_goals have hlt2 := Nat.lt_of_lt_of_le hlt hb2.size
          all_goals clear hb2 hown xz
          all_goals go_wp2_with fail
          all_goals refine (HNum.out _ hR2).mono ?_
          all_goals rintro e w2 ⟨rfl, rfl⟩
          all_goals obtain ⟨i0, hi, hz0, hz1, hz2⟩ := info_parts info_uint8
          all_goals go_wp2_with (at_make; refine wpList_make_full _ rfl _ _ 49 rfl w2.heap.size 5 i0 (.int .u8 0) 1 Try.underlying49 hi hz0 hz1 .i64 .i64 _ _ T rfl rfl rfl rfl (by rw [hz2]; omega) (by unfold maxLen; omega) (Nat.le_refl _) ?_; intro w3 hown3 hg3)
          all_goals rw [made_ints] at hown3
          all_goals obtain ⟨hV0, hV1⟩ := bpart_bd hb.out A' Wd (by omega)
          all_goals obtain ⟨V, hV⟩ : ∃ V, num (bpart xs A' Wd) = V := ⟨_, rfl⟩
          all_goals rw [hV] at hV0 hV1
          all_goals rw [hV]
          all_goals (
            go_loopw [16, 18] (fun v k wr2 => ∃ jj : Nat, jj ≤ T ∧ k = .int .i64 ((T : Int) - 1 - jj) ∧ v = .int .i64 (gGroup M jj V).2 ∧ Ow .u8 5 w2.heap.size wr2 (some ⟨w2.heap.size, 0, none⟩) T T (List.replicate (T - jj) 0 ++ (gGroup M jj V).1) ∧ Below w2.heap.size w2 wr2) (fun _ k _ => ((intOf k) + 1).toNat)
            case atStart => exact ⟨0, by omega, by simp, rfl, by simpa [gGroup, Ow] using hown3, (Below.refl w2.heap.size w2).grown hg3 (Nat.le_refl _) (fun k e => by cases e)⟩
            case round =>
              clear hown3 hg3
              obtain ⟨jj, hjj, rfl, rfl, hgr, hbg⟩ := hrel
              by_cases hq : jj < T
              · obtain ⟨kk, hkk⟩ : ∃ kk, T - jj = kk + 1 := ⟨T - jj - 1, by omega⟩
                rw [show (T : Int) - 1 - jj = kk by omega]
                rw [hkk] at hgr
                obtain ⟨hv0, hv1⟩ := gGroup_rest hm jj hV0
                obtain ⟨v, hv⟩ : ∃ v, (gGroup M jj V).2 = v := ⟨_, rfl⟩
                rw [hv] at hv0 hv1
                rw [hv]
                have hold := hgr.cell (get_front kk _)
                have hfr := hgr.free kk
                obtain ⟨hm1, hm2, hm3, hm4⟩ := gMod hm hv0 (v := v) hV1 hv1 hWd
                have hch1 : 0 ≤ v % gCap M := Int.emod_nonneg _ (by have := gCap_pos hm; omega)
                have hch2 : v % gCap M < gCap M := Int.emod_lt_of_pos _ (by have := gCap_pos hm; omega)
                go_wp2_with fail
                refine (l09Character_any M _ _ hm hch1 hch2).mono ?_
                rintro e w5 ⟨rfl, rfl⟩
                have hV2 := pow11 (k := Wd) (by omega)
                have hq0 : 0 ≤ v / gCap M := Int.ediv_nonneg hv0 (by have := gCap_pos hm; omega)
                have hq1 : v / gCap M ≤ v := Int.ediv_le_self _ hv0
                have hwq : IntKind.i64.wrap (v / gCap M) = v / gCap M := IntWalk.i64_in _ (by omega)
                go_wp2_with fail
                refine ⟨⟨jj + 1, by omega, by congr 1; omega, ?_, ?_, hbg.setCell (Nat.le_refl _) _⟩, ?_⟩
                · rw [show (gGroup M (jj + 1) V).2 = v / gCap M by rw [← hv]; rfl]
                  first | done | exact congrArg _ hwq
                · rw [show T - (jj + 1) = kk by omega, show (gGroup M (jj + 1) V).1 = chr M (v % gCap M) :: (gGroup M jj V).1 by rw [← hv]; rfl, ← set_front]
                  exact hgr.set_ kk _
                · simp [intOf]
                  try omega
              · have ejj : jj = T := by omega
                rw [ejj, Nat.sub_self, List.replicate_zero, List.nil_append] at hgr
                rw [ejj]
                clear hjj hq ejj jj
                have hd0 : decide ((0 : Int) ≤ (T : Int) - 1 - (T : Int)) = false := by rw [decide_eq_false_iff_not]; omega
                obtain ⟨s0, s1⟩ := keep2 hbg hlt2 q0 q1
                have sz := keep2f hbg hlt2 qz
                have B3 := Lib.hid (bt HB2.out hbg)
                have hlt3 := Nat.lt_of_lt_of_le hlt2 hbg.size
                by_cases hp : 0 < (gGroup M T V).2
                · have hr := Lib.hid (rSeg_none HS.out hf hD1 hT hWd hV hp)
                  have hdp : decide (0 < (gGroup M T V).2) = true := by simpa using hp
                  obtain ⟨t0, t1, t2⟩ := set2_end (.int .i64 0) (.string ⟨#[]⟩) B3.out hlt3 s0 s1
                  have T2 := Lib.hid t2
                  clear t2
                  go_wp2_with fail
                  refine bodyPost_ret (v := .tuple #[.agg #[.int .i64 0, .string ⟨#[]⟩], .int .i64 0, .bool false]) (by simp [results, Try.results31, go_sem, t0, t1]) rfl ⟨?_, T2.out⟩
                  rw [hr.out]
                  rfl
                · have hr := Lib.hid (rSeg_next HS.out hf hD1 hT hWd hV hp)
                  have hdp : decide (0 < (gGroup M T V).2) = false := by simpa using hp
                  have hrg : Rd .u8 wr (some ⟨w2.heap.size, 0, none⟩) T (gGroup M T V).1 := hgr.rd (fun x hx => by obtain ⟨b0, b1⟩ := gGroup_bd hm T hV0 x hx; exact fits_u8 b0 b1)
                  obtain ⟨Sz, hSz⟩ : ∃ Sz : Nat, gSize M = (Sz : Int) := Int.eq_ofNat_of_zero_le (by omega)
                  have hS3 : Sz ≤ 3 := by have : gSize M ≤ 3 := by { unfold gSize; split <;> (try split) <;> omega }
                                          omega
                  have v3 : IntKind.i64.wrap ((j : Int) + gSize M) = ((j + Sz : Nat) : Int) := (IntWalk.i64_in _ (by omega)).trans (by omega)
                  have hown4 := hown2.keep hbg
                  go_wp2_with (at_builtin; refine wpList_appendAll .u8 _ rfl _ _ 49 rfl (w.heap.size + 1) 5 i0 1 Try.underlying49 hi hz0 hz1 hz2 (by omega) _ _ _ tl _ _ _ _ rfl hown4 rfl hrg (by omega) (by omega) ?_; intro a5 n5 c5 w5 hown5 hbel5)
                  have e5 := hown5.len
                  have e4 := hown4.len
                  rw [List.length_append, gGroup_len] at e5
                  have r0 := (hbel5.cell (p := ⟨w.heap.size, 0, none⟩) (Nat.lt_succ_self _)).trans s0
                  have r1 := (hbel5.cell (p := ⟨w.heap.size, 1, none⟩) (Nat.lt_succ_self _)).trans s1
                  have rz : ∀ i, w5.frozen? ⟨w.heap.size, i, none⟩ = false := fun i => (hbel5.frozen (p := ⟨w.heap.size, i, none⟩) (Nat.lt_succ_self _)).trans (sz i)
                  have B5 := Lib.hid (B3.out.trans (hbel5.mono (Nat.le_succ _)))
                  have hlt5 := Nat.lt_of_lt_of_le hlt3 hbel5.size
                  clear hbel5
                  have eK : K - (j + Sz) = D - T := by omega
                  go_roundw
                  case rel =>
                    refine ⟨.int .i64 ((A' + Wd : Nat) : Int), u5, u6, .slice a5 n5 c5, .int .i64 ((j + Sz : Nat) : Int), ⟨f - 1, j + Sz, A' + Wd, rfl, rfl, a5, n5, c5, rfl, by omega, by omega, by omega, tl ++ (gGroup M T V).1, ?_, hown5, B5.out, hlt5, r0, r1, rz, ?_, H0.out.to B5.out⟩, by first | (simp; done) | (simp; omega)⟩
                    · rw [eK]
                      exact hr
                    · rw [eK]
                      omega
                  case measure =>
                    simp [intOf]
                    omega)
        · have hdj : decide ((j : Int) < (K : Int)) = false := by simp; omega
          have hcv := conv_str (P := Try.prog) hown 49 9 5 Try.underlying49 Try.underlying5 Try.underlying9
          have hr := Lib.hid (show segRes (rSeg xs at_) = .tuple #[.agg #[.int .i64 M, .string (strOfNums tl)], .int .i64 A', .bool true] by
            rw [HS.out, show K - j = 0 by omega]
            cases f with
            | zero => simp [segL, segRes]
            | succ f => simp [segL, segRes])
          obtain ⟨t0, t1, t2⟩ := set2_end (.int .i64 M) (.string (strOfNums tl)) hB hlt x0 x1
          have T2 := Lib.hid t2
          clear t2
          go_wp2_with fail
          refine bodyPost_ret (v := .tuple #[.agg #[.int .i64 M, .string (strOfNums tl)], .int .i64 A', .bool true]) (by simp [results, Try.results31, go_sem, t0, t1]) rfl ⟨?_, T2.out⟩
          rw [hr.out]
end Go.Proofs.Ytnajjofaijpciaa
