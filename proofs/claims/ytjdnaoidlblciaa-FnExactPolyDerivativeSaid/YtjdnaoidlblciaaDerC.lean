/-
  Contracts: the derivative of a polynomial, by the reference and by the program.
  Conditions: none.
-/
import Derived.Test.YtjdnaoidlblciaaDerB
set_option linter.unusedVariables false
namespace Go.Proofs.Ytjdnaoidlblciaa
open Go.RowKit Go.G8
def rPolyDerivative (p q y : Int) (xs : List Int) : List Int × Int := if codeP p q y xs = 0 then (trimL (derN p q xs (xs.length - 1)), 0) else ([], codeP p q y xs)
theorem rPolyDerivative_bad {p q y : Int} {xs : List Int} (h : codeP p q y xs ≠ 0) : rPolyDerivative p q y xs = ([], codeP p q y xs) := by unfold rPolyDerivative; rw [if_neg h]
theorem rPolyDerivative_yes {p q y : Int} {xs : List Int} (h : codeP p q y xs = 0) : rPolyDerivative p q y xs = (trimL (derN p q xs (xs.length - 1)), 0) := by unfold rPolyDerivative; rw [if_pos h]
theorem derN_in {p q y : Int} {xs : List Int} (h : fieldB p q y = true) (ha : allF (fsize p q) xs = true) (m : Nat) (hm : m + 1 ≤ xs.length ∨ m = 0) : ∀ x ∈ derN p q xs m, 0 ≤ x ∧ x ≤ fsize p q - 1 := by
  intro x hx
  simp only [derN, List.mem_map, List.mem_range] at hx
  obtain ⟨j, hj, rfl⟩ := hx
  have hl : j + 1 < xs.length := by omega
  have hz := List.all_eq_true.1 ha xs[j + 1] (List.getElem_mem hl)
  simp only [inF, decide_eq_true_eq] at hz
  rw [List.getElem?_eq_getElem hl]
  exact timesR_in h hz
theorem rPolyDerivative_ok (p q y : Int) (xs : List Int) : (rPolyDerivative p q y xs).1.length ≤ 1000000 ∧ ∀ x ∈ (rPolyDerivative p q y xs).1, fits .i64 x := by
  by_cases h : codeP p q y xs = 0
  · rw [rPolyDerivative_yes h]
    obtain ⟨h1, h2, h3⟩ := codeP_zero h
    have hbd := fsize_bd h1
    refine ⟨?_, fun x hx => ?_⟩
    · unfold trimL
      have e1 := derN_length p q xs (xs.length - 1)
      simp only [List.length_take]
      omega
    · have := derN_in (y := y) h1 h3 (xs.length - 1) (by omega) x (List.mem_of_mem_take hx)
      show -9223372036854775808 ≤ x ∧ x ≤ 9223372036854775807
      omega
  · rw [rPolyDerivative_bad h]; simp
theorem allF_at {s : Int} {xs : List Int} (h : allF s xs = true) {x : Int} (hx : x ∈ xs) : 0 ≤ x ∧ x ≤ s - 1 := by
  have := List.all_eq_true.1 h x hx
  simpa [inF] using this
theorem start3b (w : World) (a b c : Value) (T E : TypeId) : Below w.heap.size w ((w.alloc (.cells #[a, b, c] T)).alloc (.cells #[] E)) ∧ w.heap.size < ((w.alloc (.cells #[a, b, c] T)).alloc (.cells #[] E)).heap.size ∧
    ((w.alloc (.cells #[a, b, c] T)).alloc (.cells #[] E)).cell? ⟨w.heap.size, 0, none⟩ = some a ∧ ((w.alloc (.cells #[a, b, c] T)).alloc (.cells #[] E)).cell? ⟨w.heap.size, 1, none⟩ = some b ∧ ((w.alloc (.cells #[a, b, c] T)).alloc (.cells #[] E)).cell? ⟨w.heap.size, 2, none⟩ = some c := by
  refine ⟨Below.alloc (Below.alloc (Below.refl w.heap.size w) (Nat.le_refl _) _) (by simp) _, by simp; omega, ?_, ?_, ?_⟩ <;> rw [alloc_cell_old _ _ _ _ (by simp), cell_of_row _ _ _ _ _ (0, 0) (heap_alloc_new w _)] <;> rfl
set_option maxRecDepth 20000 in
set_option maxHeartbeats 1000000 in
theorem l03Derivative_any (p q y : Int) (a : Option Addr) (n c : Nat) (xs : List Int) (w : World) (hf : fieldB p q y = true) (ha : allF (fsize p q) xs = true) (h : Rd .i64 w a n xs) (hn : n ≤ 512) :
    Calls Try.prog 74 #[.agg #[.int .i64 p, .int .i64 q, .int .i64 y], .slice a n c] w (RetRow .i64 2 (trimL (derN p q xs (n - 1))) w) := by
  obtain ⟨i0, hi, hz0, hz1, hz2⟩ := info_parts info_int64
  have HL := Lib.hid h.len
  have HR := Lib.hid h
  have HS := Lib.hid (start3 w (.int .i64 p) (.int .i64 q) (.int .i64 y) 26)
  have hbd := fsize_bd hf
  have HA := Lib.hid (fun x hx => allF_at ha (x := x) hx)
  have HT := Lib.hid (fun z j w hz hj => l03Times_any p q y z j w hf hz hj)
  have HD := Lib.hid (derN_in hf ha)
  obtain ⟨s, hs⟩ : ∃ s, fsize p q = s := ⟨_, rfl⟩
  rw [hs] at HA HT HD hbd
  clear h ha hf hs
  have hst : Ow .i64 2 (w.heap.size + 1) ((w.alloc (.cells #[.int .i64 p, .int .i64 q, .int .i64 y] 26)).alloc (.cells #[] 2)) (some ⟨w.heap.size + 1, 0, none⟩) 0 0 [] := by
    have := Ow.empty .i64 2 (w.heap.size + 1) (w.alloc (.cells #[.int .i64 p, .int .i64 q, .int .i64 y] 26)) (by simp)
    simpa using this
  have HST := Lib.hid hst
  have HS2 := Lib.hid (start3b w (.int .i64 p) (.int .i64 q) (.int .i64 y) 26 2)
  clear hst
  go_enter Try.func74, Try.ntmps74
  go_wp2
  go_loopw [5, 6] (fun o i wr => ∃ (a' : Option Addr) (c' k : Nat), (k + 1 ≤ n ∨ k = 0) ∧ i = .int .i64 ((k : Int) + 1) ∧ o = .slice a' k c' ∧ Ow .i64 2 (w.heap.size + 1) wr a' k c' (derN p q xs k) ∧ Below w.heap.size w wr ∧ w.heap.size < wr.heap.size ∧ wr.cell? ⟨w.heap.size, 0, none⟩ = some (.int .i64 p) ∧ wr.cell? ⟨w.heap.size, 1, none⟩ = some (.int .i64 q) ∧ wr.cell? ⟨w.heap.size, 2, none⟩ = some (.int .i64 y)) (fun _ i _ => n + 1 - (intOf i).toNat)
  case atStart => exact ⟨_, _, 0, .inr rfl, by go_num, rfl, HST.out, HS2.out.1, HS2.out.2.1, HS2.out.2.2.1, HS2.out.2.2.2.1, HS2.out.2.2.2.2⟩
  case round =>
    obtain ⟨a', c', k, hk, rfl, rfl, hown, hbel, hlt, d0, d1, d2⟩ := hrel
    by_cases hkn : k + 1 < n
    · obtain ⟨b, o, x, rfl, hbl, hc, hx, hx1, hx2⟩ := HR.out.at_ hkn
      have hcx := (hbel.cell (p := ⟨b, o + (k + 1), none⟩) hbl).trans hc
      have hbr : b < wr.heap.size := by have := hbel.size; omega
      have hxin := HA.out x (List.mem_of_getElem? hx.out)
      have hS := Lib.hid (derN_succ p q xs k hx.out)
      have hk1 : (0 : Int) ≤ (k : Int) + 1 := by omega
      have hk2 : (k : Int) + 1 < (n : Int) := by omega
      have hTm := Lib.hid (HT.out x ((k : Int) + 1) · hxin (by omega))
      have hapart := Lib.hid (show b < w.heap.size from hbl)
      obtain ⟨z, hz⟩ : ∃ z, timesR p q x ((k : Int) + 1) = z := ⟨_, rfl⟩
      rw [hz] at hS hTm
      clear hz hc hk
      have hnk : ((k : Int) + 1).toNat = k + 1 := by omega
      go_wp2
      go_region_held3 (fun w' => w'.cell? ⟨b, o + (k + 1), none⟩ = some (.int .i64 x) ∧ w'.cell? ⟨w.heap.size, 0, none⟩ = some (.int .i64 p) ∧ w'.cell? ⟨w.heap.size, 1, none⟩ = some (.int .i64 q) ∧ w'.cell? ⟨w.heap.size, 2, none⟩ = some (.int .i64 y))
        (first | go_keep | exact keep4 hb1 hbr hlt hcx d0 d1 d2 | (go_split_ands; refine ⟨?_, ?_, ?_, ?_⟩ <;> (rw [hbel2.cell (by first | (simp; done) | (simp; omega))]; assumption)))
        (first | (go_at_call 112; refine (hTm.out _).mono ?_; rintro e w1 ⟨rfl, hb1⟩) | (refine step_push .i64 (by rfl) _ _ 37 (by rfl) (w.heap.size + 1) 2 i0 8 Try.underlying37 hi hz0 hz1 hz2 (by omega) a' k c' _ z ⟨w1.heap.size, 0, none⟩ (by rfl) ((hown.keep (((Below.refl _ _).drew).trans hb1)).alloc _) (by rfl) (by simp) (by omega) (by simp; have := hb1.size; simp at this; omega) ?_; intro a2 n2 c2 w2 hown2 hbel2))
      have hb3 := ((Below.refl wr.heap.size wr).drew).trans hb1
      have hb1s := hb3.size
      have hw2 : Below (w.heap.size + 1) wr w2 := ((hb3.mono (by omega)).alloc (by omega) _).trans hbel2
      have hw2b := hbel.trans (hw2.mono (by omega))
      have hw2s := hw2.size
      have e0 := (hw2.cell (p := ⟨w.heap.size, 0, none⟩) (by simp)).trans d0
      have e1 := (hw2.cell (p := ⟨w.heap.size, 1, none⟩) (by simp)).trans d1
      have e2 := (hw2.cell (p := ⟨w.heap.size, 2, none⟩) (by simp)).trans d2
      have hn2 : n2 = k + 1 := by have h1 := hown2.len; simp [derN_length] at h1; omega
      subst hn2
      rw [← hS.out] at hown2
      go_wp2
      go_roundw
      case rel => exact ⟨a2, c2, k + 1, .inl (by omega), by go_num, rfl, hown2, hw2b, by omega, e0, e1, e2⟩
      case measure => simp [intOf]; omega
    · have hkm := Lib.hid (show k = n - 1 by omega)
      have hk2 : (n : Int) ≤ (k : Int) + 1 := by omega
      have hko := Lib.hid hk
      have hfit := Lib.hid (fun x hx => HD.out k (by rw [HL.out]; exact hko.out) x hx)
      have hrd := hown.rd (fun x hx => by have := hfit.out x hx; show -9223372036854775808 ≤ x ∧ x ≤ 9223372036854775807; omega)
      have hTr := Lib.hid (l03Trim_any a' k c' (derN p q xs k) wr hrd (by omega) hown.cap)
      clear hkn hk hrd
      go_wp2_with fail
      refine hTr.out.mono ?_
      rintro e w2 ⟨a2, n2, c2, rfl, ho2, hb2⟩
      go_wp2_with fail
      go_ret
      exact ⟨a2, n2, c2, rfl, by rw [← hkm.out]; exact ho2.more hbel.size, bt hbel hb2⟩
set_option maxRecDepth 20000 in
set_option maxHeartbeats 1000000 in
theorem implPolyDerivative_any (p q y : Int) (a : Option Addr) (n c : Nat) (xs : List Int) (w : World) (h : Rd .i64 w a n xs) (hn : n ≤ 1000000000) :
    Calls Try.prog 29 #[.agg #[.int .i64 p, .int .i64 q, .int .i64 y], .slice a n c] w (RetRow2 .i64 2 (rPolyDerivative p q y xs).1 (.int .i64 (rPolyDerivative p q y xs).2) w) := by
  obtain ⟨i0, hi, hz0, hz1, hz2⟩ := info_parts info_int64
  have HL := Lib.hid h.len
  have HR := Lib.hid h
  have HH := Lib.hid (two_blocks2 w #[.int .i64 p, .int .i64 q, .int .i64 y] #[.slice a n c] 26 97 (.slice a n c) rfl)
  clear h
  by_cases hz : codeP p q y xs = 0
  · have hr := Lib.hid (rPolyDerivative_yes hz)
    have HZ := Lib.hid hz
    have HV := Lib.hid (codeP_zero hz)
    clear hz
    go_enter Try.func29, Try.ntmps29
    go_wp2_with fail
    obtain ⟨hw1, hcell, hcl, hlt⟩ := HH.out
    refine (polynomials_one p q y _ a n c xs _ hcell (HR.out.to hw1) hn).mono ?_
    rw [HZ.out]
    rintro e w1 ⟨o, rfl, hb1, hG⟩
    obtain ⟨G, rfl, htab⟩ := hG rfl
    have hB := bt hw1 hb1
    have hmk := htab.mark_
    have hsz := htab.size_
    have hGl := htab.lt
    have HT := Lib.hid htab
    clear hcl hb1 hw1 hcell hG htab
    have hB2 := hB.size
    have hfs := Lib.hid (fsize_bd HV.out.1)
    have HA := Lib.hid (fun x hx => allF_at HV.out.2.2 (x := x) hx)
    have HIn := Lib.hid (fun z j hz => timesR_in (p := p) (q := q) (y := y) (a := z) (k := j) HV.out.1 hz)
    have HD := Lib.hid (derN_in HV.out.1 HV.out.2.2)
    have hn5 : n ≤ 512 := by have h1 := HL.out; have h2 := HV.out.2.1; omega
    rw [HL.out] at hr
    go_wp2_with fail
    go_loopw [8, 9] (fun o i wr => ∃ (a' : Option Addr) (c' k : Nat), (k + 1 ≤ n ∨ k = 0) ∧ i = .int .i64 ((k : Int) + 1) ∧ o = .slice a' k c' ∧ Ow .i64 2 w1.heap.size wr a' k c' (derN p q xs k) ∧ Below w.heap.size w wr ∧ wr.cell? ⟨G, 0, none⟩ = some (.bool (!decide (q = 1))) ∧ wr.cell? ⟨G, 1, none⟩ = some (.int .i64 (fsize p q)) ∧ w1.heap.size ≤ wr.heap.size) (fun _ i _ => n + 1 - (intOf i).toNat)
    case atStart =>
      refine ⟨_, _, 0, .inr rfl, by go_num, rfl, Ow.empty _ _ _ w1 (Nat.le_refl _), hB.alloc hB2 _, ?_, ?_, by simp⟩
      · rw [alloc_cell_old _ _ _ _ hGl]; exact hmk
      · rw [alloc_cell_old _ _ _ _ hGl]; exact hsz
    case round =>
      clear hmk hsz hB HT
      obtain ⟨a', c', k, hk, rfl, rfl, hown, hbel, hmk, hsz, hBr⟩ := hrel
      have hBr0 := hbel.size
      by_cases hkn : k + 1 < n
      · obtain ⟨b, o, x, rfl, hbl, hc, hx, hx1, hx2⟩ := HR.out.at_ hkn
        have hcx := (hbel.cell (p := ⟨b, o + (k + 1), none⟩) hbl).trans hc
        obtain ⟨hxa, hxb⟩ := HA.out x (List.mem_of_getElem? hx.out)
        have hS := Lib.hid (derN_succ p q xs k hx.out)
        have hk1 : (0 : Int) ≤ (k : Int) + 1 := by omega
        have hk2 : (k : Int) + 1 < (n : Int) := by omega
        have hnk : ((k : Int) + 1).toNat = k + 1 := by omega
        obtain ⟨hf1, hf2⟩ := hfs.out
        clear hc hk hbl
        by_cases hq : q = 1
        · subst hq
          have hTR := Lib.hid (show timesR p 1 x ((k : Int) + 1) = x * (((k : Int) + 1) % p) % p from rfl)
          rw [fsize_one] at *
          simp only [decide_true, Bool.not_true] at hmk
          have e1 : ((k : Int) + 1).tmod p = ((k : Int) + 1) % p := Int.tmod_eq_emod_of_nonneg hk1
          have h1 := Int.emod_nonneg ((k : Int) + 1) (show p ≠ 0 by omega)
          have h2 := Int.emod_lt_of_pos ((k : Int) + 1) (show 0 < p by omega)
          obtain ⟨K, hK⟩ : ∃ K, ((k : Int) + 1) % p = K := ⟨_, rfl⟩
          rw [hK] at hTR e1 h1 h2
          have hm1 : 0 ≤ K * x := Int.mul_nonneg h1 hxa
          have hm2 : K * x ≤ 1021 * 1021 := Int.mul_le_mul (by omega) (by omega) hxa (by omega)
          have e2 : IntKind.i64.wrap (K * x) = K * x := IntWalk.i64_in _ (by omega)
          have e3 : (K * x).tmod p = K * x % p := Int.tmod_eq_emod_of_nonneg hm1
          have e4 : ¬ p = 0 := by omega
          have hz := Lib.hid (show K * x % p = timesR p 1 x ((k : Int) + 1) by rw [hTR.out, Int.mul_comm])
          clear hK
          go_wp2
          go_quiet (fail)
          have hownq : Ow .i64 2 w1.heap.size (wr.drewN nq) a' k c' (derN p 1 xs k) := hown.keep (below_drewN (Below.refl _ _) nq)
          go_wp2_with (first | (at_builtin; refine wpList_push .i64 _ rfl _ _ 97 rfl w1.heap.size 2 _ i0 8 Try.underlying97 hi hz0 hz1 hz2 (by omega) a' k c' _ _ rfl hownq rfl (by omega) (by first | omega | (simp; omega)) ?_; intro a2 n2 c2 w2 hown2 hbel2))
          have hn2 : n2 = k + 1 := by have h1 := hown2.len; simp [derN_length] at h1; omega
          subst hn2
          rw [hz.out] at hown2
          rw [← hS.out] at hown2
          have hw2s := hbel2.size
          have hmk2 := (hbel2.cell (p := ⟨G, 0, none⟩) hGl).trans hmk
          have hsz2 := (hbel2.cell (p := ⟨G, 1, none⟩) hGl).trans hsz
          exact ⟨⟨a2, c2, k + 1, .inl (by omega), by go_num, rfl, hown2, (below_drewN hbel nq).trans (hbel2.mono hB2), by simpa using hmk2, by simpa using hsz2, by simp at hw2s; omega⟩, by simp [intOf]; omega⟩
        · have hTR := Lib.hid (show timesR p q x ((k : Int) + 1) = x * (((k : Int) + 1) % 2) by unfold timesR; rw [if_neg hq])
          have hqd := Lib.hid (decide_eq_false hq)
          rw [hqd.out] at hmk
          simp only [Bool.not_false] at hmk
          have hm : 0 ≤ x * (((k : Int) + 1) % 2) ∧ x * (((k : Int) + 1) % 2) ≤ 1021 := by
            rcases (show ((k : Int) + 1) % 2 = 0 ∨ ((k : Int) + 1) % 2 = 1 by omega) with h | h <;> rw [h] <;> omega
          obtain ⟨hm1, hm2⟩ := hm
          clear hq
          go_wp2_with (first | (at_builtin; refine wpList_push .i64 _ rfl _ _ 97 rfl w1.heap.size 2 _ i0 8 Try.underlying97 hi hz0 hz1 hz2 (by omega) a' k c' _ _ rfl hown rfl (by omega) (by first | omega | (simp; omega)) ?_; intro a2 n2 c2 w2 hown2 hbel2))
          have hn2 : n2 = k + 1 := by have h1 := hown2.len; simp [derN_length] at h1; omega
          subst hn2
          rw [← hTR.out] at hown2
          rw [← hS.out] at hown2
          have hw2s := hbel2.size
          have hmk2 := (hbel2.cell (p := ⟨G, 0, none⟩) hGl).trans hmk
          have hsz2 := (hbel2.cell (p := ⟨G, 1, none⟩) hGl).trans hsz
          exact ⟨⟨a2, c2, k + 1, .inl (by omega), by go_num, rfl, hown2, hbel.trans (hbel2.mono hB2), by rw [hqd.out]; exact hmk2, hsz2, by omega⟩, by simp [intOf]; omega⟩
      · have hkm := Lib.hid (show k = n - 1 by omega)
        have hk2 : (n : Int) ≤ (k : Int) + 1 := by omega
        have hfit := Lib.hid (fun x hx => HD.out k (by rw [HL.out]; exact hk) x hx)
        have hbd2 := hfs.out
        have hrd := hown.rd (fun x hx => by have := hfit.out x hx; show -9223372036854775808 ≤ x ∧ x ≤ 9223372036854775807; omega)
        have hTr := Lib.hid (trim_any a' k c' (derN p q xs k) wr hrd (by omega) hown.cap)
        clear hkn hk hrd hbd2
        go_wp2_with fail
        refine hTr.out.mono ?_
        rintro e w2 ⟨rfl, rfl⟩
        go_wp2_with fail
        go_ret2
        have hp := (hown.prefix_ (trimN_le (derN p q xs k) k)).more hB2
        refine retRow2_of hr.out ?_ hbel
        unfold trimL
        rw [derN_length, ← hkm.out]
        exact hp
  · have hr := Lib.hid (rPolyDerivative_bad hz)
    obtain ⟨cd, hcd⟩ : ∃ cd, codeP p q y xs = cd := ⟨_, rfl⟩
    have HZ := Lib.hid hcd
    rw [hcd] at hz hr
    clear hcd
    have hne : (cd != 0) = true := by rw [bne_iff_ne]; exact hz
    clear hz
    go_enter Try.func29, Try.ntmps29
    go_wp2_with fail
    obtain ⟨hw1, hcell, hcl, hlt⟩ := HH.out
    refine (polynomials_one p q y _ a n c xs _ hcell (HR.out.to hw1) hn).mono ?_
    rw [HZ.out]
    rintro e w1 ⟨o, rfl, hb1, -⟩
    clear hcl
    go_wp2_with fail
    go_ret2
    exact retRow2_nil hr.out (bt hw1 hb1)
set_option maxRecDepth 20000 in
theorem specPolyDerivative_any (p q y : Int) (a : Option Addr) (n c : Nat) (xs : List Int) (w : World) (h : Rd .i64 w a n xs) (hn : n ≤ 1000000000) :
    Calls Try.prog 26 #[.agg #[.int .i64 p, .int .i64 q, .int .i64 y], .slice a n c] w (RetRow2 .i64 2 (rPolyDerivative p q y xs).1 (.int .i64 (rPolyDerivative p q y xs).2) w) := by
  have HL := Lib.hid h.len
  have HR := Lib.hid h
  have HH := Lib.hid (two_blocks2 w #[.int .i64 p, .int .i64 q, .int .i64 y] #[.slice a n c] 26 37 (.slice a n c) rfl)
  clear h
  by_cases hz : codeP p q y xs = 0
  · have hr := Lib.hid (rPolyDerivative_yes hz)
    have HZ := Lib.hid hz
    have HV := Lib.hid (codeP_zero hz)
    have hn5 : n ≤ 512 := by have h1 := HL.out; have h2 := HV.out.2.1; omega
    rw [HL.out] at hr
    clear hz
    go_enter Try.func26, Try.ntmps26
    go_wp2_with fail
    obtain ⟨hw1, hcell, hcl, hlt⟩ := HH.out
    refine (l03Code_one p q y _ a n c xs _ hcell (HR.out.to hw1) hn).mono ?_
    rw [HZ.out]
    rintro e w1 ⟨rfl, hb1⟩
    obtain ⟨d0, d1, d2⟩ := cell3' hb1 hlt (hcl 0 (.int .i64 p) rfl) (hcl 1 (.int .i64 q) rfl) (hcl 2 (.int .i64 y) rfl)
    have hB := bt hw1 hb1
    have hR1 := HR.out.to hB
    clear hcl hb1 hw1 hcell hlt
    go_wp2_with fail
    refine (l03Derivative_any p q y a n c xs _ HV.out.1 HV.out.2.2 hR1 hn5).mono ?_
    rintro e w2 ⟨a2, n2, c2, rfl, ho2, hb2⟩
    go_wp2_with fail
    go_ret2
    exact retRow2_of hr.out (ho2.more hB.size) (bt hB hb2)
  · have hr := Lib.hid (rPolyDerivative_bad hz)
    obtain ⟨cd, hcd⟩ : ∃ cd, codeP p q y xs = cd := ⟨_, rfl⟩
    have HZ := Lib.hid hcd
    rw [hcd] at hz hr
    clear hcd
    have hne : (cd != 0) = true := by rw [bne_iff_ne]; exact hz
    clear hz
    go_enter Try.func26, Try.ntmps26
    go_wp2_with fail
    obtain ⟨hw1, hcell, hcl, hlt⟩ := HH.out
    refine (l03Code_one p q y _ a n c xs _ hcell (HR.out.to hw1) hn).mono ?_
    rw [HZ.out]
    rintro e w1 ⟨rfl, hb1⟩
    clear hcl
    go_wp2_with fail
    go_ret2
    exact retRow2_nil hr.out (bt hw1 hb1)
end Go.Proofs.Ytjdnaoidlblciaa
