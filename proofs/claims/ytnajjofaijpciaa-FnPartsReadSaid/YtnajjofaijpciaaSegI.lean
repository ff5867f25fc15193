/-
  Contract: the program's reading of a segment.
  Conditions: lists of bits.
-/
import Derived.Test.YtnajjofaijpciaaSegR
import Derived.Test.YtnajjofaijpciaaSegM
set_option linter.unusedVariables false
namespace Go.Proofs.Ytnajjofaijpciaa
open Go.RowKit Go.G8
set_option maxHeartbeats 4000000 in
set_option maxRecDepth 20000 in
theorem readSegment_any (a : Option Addr) (n c at_ : Nat) (xs : List Int) (w : World) (hc : n ≤ c) (hc2 : c ≤ 9223372036854775807) (h : Rd .i64 w a n xs) (hb : Hid (∀ x ∈ xs, x = 0 ∨ x = 1)) (hn : n ≤ 8192) (hat : at_ ≤ n) :
    Calls Try.prog 34 #[.slice a n c, .int .i64 at_] w (Ret (segRes (rSeg xs at_)) w) := by
  have e1 : IntKind.i64.wrap ((at_ : Int) + 3) = (at_ : Int) + 3 := IntWalk.i64_in _ (by omega)
  have e3 : IntKind.i64.wrap ((at_ : Int) + 11) = (at_ : Int) + 11 := IntWalk.i64_in _ (by omega)
  have e2 : IntKind.i64.wrap ((at_ : Int) + 3 + 8) = (at_ : Int) + 11 := (IntWalk.i64_in _ (by omega)).trans (by omega)
  have hlen := h.len
  obtain ⟨z0, z1, z2⟩ := new_two w (.int .i64 0) (.string ⟨#[]⟩) 24
  have hal : Below w.heap.size w (w.alloc (.cells #[.int .i64 0, .string ⟨#[]⟩] 24)) := Below.alloc (Below.refl _ _) (Nat.le_refl _) _
  have zf : ∀ i, (w.alloc (.cells #[.int .i64 0, .string ⟨#[]⟩] 24)).frozen? ⟨w.heap.size, i, none⟩ = false := fun i => frozen_of_row _ _ _ _ _ (heap_alloc_new w _)
  by_cases hl : n < at_ + 11
  · have hr := Lib.hid (rSeg_short (xs := xs) (at_ := at_) (by omega))
    go_enter Try.func34, Try.ntmps34
    go_wp2_with fail
    refine bodyPost_ret (v := .tuple #[.agg #[.int .i64 0, .string ⟨#[]⟩], .int .i64 0, .bool false]) (by simp [results, Try.results34, go_sem, z0, z1]) rfl ⟨?_, hal⟩
    rw [hr.out]
    rfl
  · have hd : decide ((n : Int) < (at_ : Int) + 11) = false := by simp; omega
    have HAl := Lib.hid hal
    have HR := Lib.hid (h.to hal)
    have HV := Lib.hid (fun (W : World) (hR : Rd .i64 W a n xs) => numberAt_any a n c xs at_ 3 W hR hb (by omega) hc hc2 (by omega) (by omega) (by omega) (by omega))
    have HU := Lib.hid (fun (W : World) (hR : Rd .i64 W a n xs) => numberAt_any a n c xs ((at_ : Int) + 3) 8 W hR hb (by omega) hc hc2 (by omega) (by omega) (by omega) (by omega))
    rw [show ((at_ : Int)).toNat = at_ from Int.toNat_natCast _, show (3 : Int).toNat = 3 from rfl] at HV
    rw [show ((at_ : Int) + 3).toNat = at_ + 3 by omega, show (8 : Int).toNat = 8 from rfl] at HU
    have hno := Lib.hid (rSeg_no (xs := xs) (at_ := at_))
    obtain ⟨M, hM⟩ : ∃ M, num (bpart xs at_ 3) = M := ⟨_, rfl⟩
    obtain ⟨N, hN⟩ : ∃ N, num (bpart xs (at_ + 3) 8) = N := ⟨_, rfl⟩
    rw [hM] at HV hno
    rw [hN] at HU hno
    have hMb : 0 ≤ M ∧ M < 8 := by have := bpart_bd hb.out at_ 3 (by omega); rw [hM] at this; exact this
    have hNb : 0 ≤ N ∧ N < 256 := by have := bpart_bd hb.out (at_ + 3) 8 (by omega); rw [hN] at this; exact this
    obtain ⟨K, rfl⟩ := Int.eq_ofNat_of_zero_le hNb.1
    have hK : K < 256 := by omega
    have H0 := Lib.hid h
    clear hal hNb h
    by_cases hm : ¬ (1 ≤ M ∧ M ≤ 4)
    · have hr := Lib.hid (hno.out (fun hh => hm ⟨hh.1, hh.2.1⟩))
      have hMb1 := hMb.1
      have hMb2 := hMb.2
      go_enter Try.func34, Try.ntmps34
      go_wp2_with fail
      refine (HV.out _ HR.out).mono ?_
      rintro e w1 ⟨rfl, rfl⟩
      go_wp2_with fail
      refine (HU.out _ HR.out).mono ?_
      rintro e w1 ⟨rfl, rfl⟩
      go_wp2_with fail
      refine (modeOf_no M _ hm).mono ?_
      rintro e w1 ⟨rfl, rfl⟩
      go_wp2_with fail
      refine bodyPost_ret (v := .tuple #[.agg #[.int .i64 0, .string ⟨#[]⟩], .int .i64 0, .bool false]) (by simp [results, Try.results34, go_sem, z0, z1]) rfl ⟨?_, HAl.out⟩
      rw [hr.out]
      rfl
    have hm : 1 ≤ M ∧ M ≤ 4 := Classical.not_not.1 hm
    by_cases hk0 : K = 0
    · subst hk0
      have hr := Lib.hid (hno.out (fun hh => hh.2.2.1 rfl))
      go_enter Try.func34, Try.ntmps34
      go_wp2_with fail
      refine (HV.out _ HR.out).mono ?_
      rintro e w1 ⟨rfl, rfl⟩
      go_wp2_with fail
      refine (HU.out _ HR.out).mono ?_
      rintro e w1 ⟨rfl, rfl⟩
      go_wp2_with fail
      refine (modeOf_any M _ hm).mono ?_
      rintro e w1 ⟨t, v, fG, fW, fC, fB, rfl, hb1, hok⟩
      obtain ⟨y0, y1⟩ := keep2 hb1 z2 z0 z1
      have yz := keep2f hb1 z2 zf
      obtain ⟨x0, x1, x2⟩ := set2_end (.int .i64 0) (.string ⟨#[]⟩) (bt HAl.out hb1) (Nat.lt_of_lt_of_le z2 hb1.size) y0 y1
      have X2 := Lib.hid x2
      clear x2
      go_wp2_with fail
      refine bodyPost_ret (v := .tuple #[.agg #[.int .i64 0, .string ⟨#[]⟩], .int .i64 0, .bool false]) (by simp [results, Try.results34, go_sem, x0, x1]) rfl ⟨?_, X2.out⟩
      rw [hr.out]
      rfl
    have hkz : ((K : Int) == 0) = false := by rw [beq_eq_false_iff_ne]; omega
    have hgl := gLen_bd hm (n := K) (by omega)
    obtain ⟨G, hG⟩ : ∃ G, gLen M K = G := ⟨_, rfl⟩
    rw [hG] at hgl
    obtain ⟨hg0, hg1⟩ := hgl
    have hgw : IntKind.i64.wrap ((at_ : Int) + 11 + (G - 11)) = (at_ : Int) + G := (IntWalk.i64_in _ (by omega)).trans (by omega)
    by_cases hover : ¬ ((at_ : Int) + gLen M K ≤ n)
    · have hr := Lib.hid (hno.out (fun hh => hover (by have := hh.2.2.2; rw [hlen] at this; exact this)))
      rw [hG] at hover
      have hgd : decide ((n : Int) < (at_ : Int) + G) = true := by simp; omega
      go_enter Try.func34, Try.ntmps34
      go_wp2_with fail
      refine (HV.out _ HR.out).mono ?_
      rintro e w1 ⟨rfl, rfl⟩
      go_wp2_with fail
      refine (HU.out _ HR.out).mono ?_
      rintro e w1 ⟨rfl, rfl⟩
      go_wp2_with fail
      refine (modeOf_any M _ hm).mono ?_
      rintro e w1 ⟨t, v, fG, fW, fC, fB, rfl, hb1, hok⟩
      go_wp2_with fail
      have HT := hok.cT w1 K (Below.refl _ _) (by omega) (by omega)
      rw [hG] at HT
      refine HT.mono ?_
      rintro e w2 ⟨rfl, hb2⟩
      have hb1 := bt hb1 hb2
      obtain ⟨y0, y1⟩ := keep2 hb1 z2 z0 z1
      have yz := keep2f hb1 z2 zf
      obtain ⟨x0, x1, x2⟩ := set2_end (.int .i64 0) (.string ⟨#[]⟩) (bt HAl.out hb1) (Nat.lt_of_lt_of_le z2 hb1.size) y0 y1
      have X2 := Lib.hid x2
      clear x2
      go_wp2_with fail
      refine bodyPost_ret (v := .tuple #[.agg #[.int .i64 0, .string ⟨#[]⟩], .int .i64 0, .bool false]) (by simp [results, Try.results34, go_sem, x0, x1]) rfl ⟨?_, X2.out⟩
      rw [hr.out]
      rfl
    · have hover : (at_ : Int) + gLen M K ≤ n := Classical.not_not.1 hover
      have hgd : decide ((n : Int) < (at_ : Int) + G) = false := by simp; omega
      go_enter Try.func34, Try.ntmps34
      go_wp2_with fail
      refine (HV.out _ HR.out).mono ?_
      rintro e w1 ⟨rfl, rfl⟩
      go_wp2_with fail
      refine (HU.out _ HR.out).mono ?_
      rintro e w1 ⟨rfl, rfl⟩
      go_wp2_with fail
      refine (modeOf_any M _ hm).mono ?_
      rintro e w1 ⟨t, v, fG, fW, fC, fB, rfl, hb1, hok⟩
      go_wp2_with fail
      have HT := hok.cT w1 K (Below.refl _ _) (by omega) (by omega)
      rw [hG] at HT
      refine HT.mono ?_
      rintro e w2 ⟨rfl, hb2⟩
      obtain ⟨y0, y1⟩ := keep2 (bt hb1 hb2) z2 z0 z1
      have yz := keep2f (bt hb1 hb2) z2 zf
      have HB2 := Lib.hid (bt HAl.out (bt hb1 hb2))
      have hlt2 := Nat.lt_of_lt_of_le z2 (bt hb1 hb2).size
      have hlt1 := Nat.lt_of_lt_of_le z2 hb1.size
      have hsz1 := hb2.size
      clear HT hb1 z0 z1 zf
      obtain ⟨i0, hi, hz0, hz1, hz2⟩ := info_parts info_uint8
      have hmf : ∀ (fn : Fn) (first cap : Array Value) (w : World), (Instr.makeFunc fn first cap).run Try.prog w = .ok (.func fn first cap) w := fun _ _ _ _ => rfl
      have hmG := hok.mG
      have hmW := hok.mW
      have hmC := hok.mC
      have hmB := hok.mB
      have hnW := hok.nW
      have hnC := hok.nC
      have hnB := hok.nB
      have heG := hok.eG
      have heW := hok.eW
      have heC := hok.eC
      have heB := hok.eB
      have hs0 : rSeg xs at_ = (segL xs M K K (at_ + 11)).map (fun r => (M, [] ++ r.1, r.2)) := by
        unfold rSeg
        rw [if_neg (by omega), hM, hN, Int.toNat_natCast, if_pos ⟨hm.1, hm.2, by omega, by rw [hlen]; omega⟩]
        rfl
      have HSeg := Lib.hid hs0
      clear hs0
      have HOK := Lib.hid hok
      clear hok
      go_wp2_with (at_make; refine wpList_make_own _ rfl _ _ 49 rfl w1.heap.size 5 i0 (.int .u8 0) 1 Try.underlying49 hi hz0 hz1 .i64 .i64 _ K rfl rfl (by omega) (by rw [hz2]; omega) (by unfold maxLen; omega) (by omega) ?_; intro w3 hown3 hg3)
      have hb3 := (Below.refl w2.heap.size w2).grown hg3 (Nat.le_refl _) (fun k e => by cases e)
      have HB3 := Lib.hid (bt hb2 hb3)
      obtain ⟨x0, x1⟩ := keep2 hb3 hlt2 y0 y1
      have xz := keep2f hb3 hlt2 yz
      have HB4 := Lib.hid (bt HB2.out hb3)
      have hlt3 := Nat.lt_of_lt_of_le hlt2 hb3.size
      clear hb2 hg3 y0 y1 yz hlt2 hb3
      go_loopw [1, 9, 12] (fun A cnt tx wr => ∃ (f D A' : Nat) (a' : Option Addr) (n' c' : Nat) (tl : List Int), A = .int .i64 A' ∧ cnt = .int .i64 D ∧ tx = .slice a' n' c' ∧ D ≤ f ∧ n' + D ≤ K ∧ Hid (rSeg xs at_ = (segL xs M f D A').map (fun r => (M, tl ++ r.1, r.2))) ∧ Ow .u8 5 w1.heap.size wr a' n' c' tl ∧ Below w.heap.size w wr ∧ w.heap.size < wr.heap.size ∧ wr.cell? ⟨w.heap.size, 0, none⟩ = some (.int .i64 0) ∧ wr.cell? ⟨w.heap.size, 1, none⟩ = some (.string ⟨#[]⟩) ∧ (∀ i, wr.frozen? ⟨w.heap.size, i, none⟩ = false) ∧ (A' : Int) + gText M D ≤ n ∧ Below w1.heap.size w1 wr) (fun _ i _ _ => (intOf i).toNat)
      case atStart => exact ⟨K, K, at_ + 11, _, 0, _, [], by simp, rfl, rfl, Nat.le_refl _, by omega, HSeg, hown3, HB4.out, hlt3, x0, x1, xz, by unfold gText; rw [hG]; omega, HB3.out⟩
      case round =>
        clear hown3 x0 x1 xz
        obtain ⟨wo, rfl⟩ : ∃ wo : World, wo = wr := ⟨_, rfl⟩
        obtain ⟨f, D, A', a', n', c', tl, rfl, rfl, rfl, hf, hnD, HS, hown, hB, hlt, x0, x1, xz, hbd, hbw⟩ := hrel
        by_cases hD1 : 1 ≤ D
        · have hdj : decide ((0 : Int) < (D : Int)) = true := by simp; omega
          obtain ⟨hT1, hT2, hT3⟩ := gTake_pos hm hD1
          obtain ⟨hS1, hS2, hS3, hS4⟩ := gText_step hm hD1
          obtain ⟨T, hT⟩ : ∃ T, gTake M D = T := ⟨_, rfl⟩
          have hmin : min (gSize M) (D : Int) = (T : Int) := by
            rw [← hT]; unfold gTake
            have : 0 ≤ gSize M := by unfold gSize; split <;> (try split) <;> omega
            omega
          rw [hT] at hT1 hT2 hT3 hS1 hS2 hS3 hS4
          obtain ⟨Wd, hWd⟩ : ∃ Wd : Nat, gWidth M T = (Wd : Int) := Int.eq_ofNat_of_zero_le (by omega)
          rw [hWd] at hS1 hS3 hS4
          have v2 : IntKind.i64.wrap ((A' : Int) + (Wd : Int)) = (A' : Int) + (Wd : Int) := IntWalk.i64_in _ (by omega)
          have HNum := Lib.hid (fun (W : World) (hR : Rd .i64 W a n xs) => numberAt_any a n c xs A' Wd W hR hb (by omega) hc hc2 (by omega) (by omega) (by omega) (by omega))
          rw [Int.toNat_natCast, Int.toNat_natCast] at HNum
          go_wp2_with fail
          refine (HOK.out.cG _).mono ?_
          rintro e w4 ⟨rfl, hb4⟩
          go_wp2_with fail
          all_goals (first | rw [show (D : Int) = (T : Int) by omega] | rw [show gSize M = (T : Int) by omega])
          all_goals (
            have hb4w := bt hbw hb4
            have HW := HOK.out.cW _ T hb4w (by omega) hT3
            rw [hWd] at HW
            refine HW.mono ?_
            rintro e w5 ⟨rfl, hb5⟩
            clear HW
            have hb5o := bt hb4 hb5
            go_wp2_with fail
            refine (HNum.out _ (H0.out.to (bt hB hb5o))).mono ?_
            rintro e w6 ⟨rfl, rfl⟩
            go_wp2_with fail
            have HW := HOK.out.cW _ T (bt hbw hb5o) (by omega) hT3
            rw [hWd] at HW
            refine HW.mono ?_
            rintro e w7 ⟨rfl, hb7⟩
            clear HW
            have hb7o := bt hb5o hb7
            clear hb4 hb5 hb7 hb4w hb5o
            obtain ⟨q0, q1⟩ := keep2 hb7o hlt x0 x1
            have qz := keep2f hb7o hlt xz
            have hown2 := hown.keep hb7o
            have HB2 := Lib.hid (bt hB hb7o)
            have hlt2 := Nat.lt_of_lt_of_le hlt hb7o.size
            have hbw7 := bt hbw hb7o
            clear hb7o x0 x1 xz hown hbw
            obtain ⟨hV0, hV1⟩ := bpart_bd hb.out A' Wd (by omega)
            obtain ⟨V, hV⟩ : ∃ V, num (bpart xs A' Wd) = V := ⟨_, rfl⟩
            rw [hV] at hV0 hV1
            rw [hV]
            obtain ⟨i0, hi, hz0, hz1, hz2⟩ := info_parts info_uint8
            go_wp2_with (at_make; refine wpList_make_full _ rfl _ _ 49 rfl w7.heap.size 5 i0 (.int .u8 0) 1 Try.underlying49 hi hz0 hz1 .i64 .i64 _ _ T rfl rfl rfl rfl (by rw [hz2]; omega) (by unfold maxLen; omega) (Nat.le_refl _) ?_; intro w3 hown3 hg3)
            rw [made_ints] at hown3
            go_loopw [14, 16] (fun v k wr2 => ∃ jj : Nat, jj ≤ T ∧ k = .int .i64 ((T : Int) - 1 - jj) ∧ v = .int .i64 (gGroup M jj V).2 ∧ Ow .u8 5 w7.heap.size wr2 (some ⟨w7.heap.size, 0, none⟩) T T (List.replicate (T - jj) 0 ++ (gGroup M jj V).1) ∧ Below w7.heap.size w7 wr2) (fun _ k _ => ((intOf k) + 1).toNat)
            case atStart => exact ⟨0, by omega, by simp, rfl, by simpa [gGroup, Ow] using hown3, (Below.refl w7.heap.size w7).grown hg3 (Nat.le_refl _) (fun k e => by cases e)⟩
            case round =>
              clear hown3 hg3
              obtain ⟨jj, hjj, rfl, rfl, hgr, hbg⟩ := hrel
              by_cases hq : jj < T
              · obtain ⟨kk, hkk⟩ : ∃ kk, T - jj = kk + 1 := ⟨T - jj - 1, by omega⟩
                rw [show (T : Int) - 1 - jj = kk by omega]
                rw [hkk] at hgr
                obtain ⟨hv0, hv1⟩ := gGroup_rest hm jj hV0
                obtain ⟨v, hv⟩ : ∃ v, (gGroup M jj V).2 = v := ⟨_, rfl⟩
                rw [hv] at hv0 hv1
                rw [hv]
                have hcp := gCap_pos hm
                have hm1 : Int.tmod v (gCap M) = v % gCap M := Int.tmod_eq_emod_of_nonneg hv0
                have hm2 : Int.tdiv v (gCap M) = v / gCap M := Int.tdiv_eq_ediv_of_nonneg hv0
                have hch1 : 0 ≤ v % gCap M := Int.emod_nonneg _ (by omega)
                have hch2 : v % gCap M < gCap M := Int.emod_lt_of_pos _ (by omega)
                have hV2 := pow11 (k := Wd) (by omega)
                have hq0 : 0 ≤ v / gCap M := Int.ediv_nonneg hv0 (by omega)
                have hq1 : v / gCap M ≤ v := Int.ediv_le_self _ hv0
                have hwm : IntKind.i64.wrap (v % gCap M) = v % gCap M := IntWalk.i64_in _ (by omega)
                have hwq : IntKind.i64.wrap (v / gCap M) = v / gCap M := IntWalk.i64_in _ (by omega)
                have hold := hgr.cell (get_front kk _)
                have hfr := hgr.free kk
                have hcz : ¬ gCap M = 0 := by omega
                have hkT : kk < T := by omega
                go_wp2_with fail
                go_region_with (first | (refine (HOK.out.cC _ _ hch1 hch2).mono ?_; rintro e w9 ⟨rfl, hb9⟩; replace hb9 := bt (by first | exact hb8 | exact hb8.drew) hb9; have hgr9 := hgr.keep hb9; have hold9 := hgr9.cell (get_front kk _); have hfr9 := hgr9.free kk) | (refine (HOK.out.cB _).mono ?_; rintro e w8 ⟨rfl, hb8⟩; replace hb8 := bt (w := wr) (by first | exact Below.refl _ _ | exact (Below.refl _ _).drew | exact ((Below.refl _ _).drew).drew) hb8))
                all_goals (
                  have hset := hgr9.set_ kk (chr M (v % gCap M))
                  rw [set_front] at hset
                  have hbg9 := (bt hbg hb9).setCell (p := ⟨w7.heap.size, kk, none⟩) (Nat.le_refl _) (.int .u8 (chr M (v % gCap M)))
                  clear hgr9 hold9 hfr9 hb8 hgr hold hfr
                  go_wp2_with fail
                  refine (HOK.out.cB _).mono ?_
                  rintro e w10 ⟨rfl, hb10⟩
                  have hgr10 := hset.keep hb10
                  have hbg10 := bt hbg9 hb10
                  clear hset hbg9 hb10 hbg hb9
                  go_wp2_with fail
                  refine ⟨⟨jj + 1, by omega, by congr 1; omega, ?_, ?_, hbg10⟩, ?_⟩
                  · rw [show (gGroup M (jj + 1) V).2 = v / gCap M by rw [← hv]; rfl]
                    first | done | exact congrArg _ hwq
                  · rw [show T - (jj + 1) = kk by omega, show (gGroup M (jj + 1) V).1 = chr M (v % gCap M) :: (gGroup M jj V).1 by rw [← hv]; rfl]
                    exact hgr10
                  · simp [intOf]
                    try omega)
              · have ejj : jj = T := by omega
                rw [ejj, Nat.sub_self, List.replicate_zero, List.nil_append] at hgr
                rw [ejj]
                clear hjj hq ejj jj
                have hd0 : decide ((0 : Int) ≤ (T : Int) - 1 - (T : Int)) = false := by rw [decide_eq_false_iff_not]; omega
                obtain ⟨s0, s1⟩ := keep2 hbg hlt2 q0 q1
                have sz := keep2f hbg hlt2 qz
                have B3 := Lib.hid (bt HB2.out hbg)
                have hlt3 := Nat.lt_of_lt_of_le hlt2 hbg.size
                have hbw8 := Lib.hid (bt hbw7 hbg)
                have hszr := hbw8.out.size
                by_cases hp : 0 < (gGroup M T V).2
                · have hr := Lib.hid (rSeg_none HS.out hf hD1 hT hWd hV hp)
                  have hdp : decide (0 < (gGroup M T V).2) = true := by simpa using hp
                  obtain ⟨t0, t1, t2⟩ := set2_end (.int .i64 0) (.string ⟨#[]⟩) B3.out hlt3 s0 s1
                  have T2 := Lib.hid t2
                  clear t2
                  go_wp2_with fail
                  refine bodyPost_ret (v := .tuple #[.agg #[.int .i64 0, .string ⟨#[]⟩], .int .i64 0, .bool false]) (by simp [results, Try.results34, go_sem, t0, t1]) rfl ⟨?_, T2.out⟩
                  rw [hr.out]
                  rfl
                · have hr := Lib.hid (rSeg_next HS.out hf hD1 hT hWd hV hp)
                  have hdp : decide (0 < (gGroup M T V).2) = false := by simpa using hp
                  have hrg : Rd .u8 wr (some ⟨w7.heap.size, 0, none⟩) T (gGroup M T V).1 := hgr.rd (fun x hx => by obtain ⟨b0, b1⟩ := gGroup_bd hm T hV0 x hx; exact fits_u8 b0 b1)
                  have hown4 := hown2.keep hbg
                  have v4 : IntKind.i64.wrap ((D : Int) - (T : Int)) = ((D - T : Nat) : Int) := (IntWalk.i64_in _ (by omega)).trans (by omega)
                  go_wp2_with (at_builtin; refine wpList_appendAll .u8 _ rfl _ _ 49 rfl w1.heap.size 5 i0 1 Try.underlying49 hi hz0 hz1 hz2 (by omega) _ _ _ tl _ _ _ _ rfl hown4 rfl hrg (by omega) (by omega) ?_; intro a5 n5 c5 w5 hown5 hbel5)
                  have e5 := hown5.len
                  have e4 := hown4.len
                  rw [List.length_append, gGroup_len] at e5
                  have r0 := (hbel5.cell (p := ⟨w.heap.size, 0, none⟩) hlt1).trans s0
                  have r1 := (hbel5.cell (p := ⟨w.heap.size, 1, none⟩) hlt1).trans s1
                  have rz : ∀ i, w5.frozen? ⟨w.heap.size, i, none⟩ = false := fun i => (hbel5.frozen (p := ⟨w.heap.size, i, none⟩) hlt1).trans (sz i)
                  have B5 := Lib.hid (B3.out.trans (hbel5.mono (Nat.le_of_lt hlt1)))
                  have hlt5 := Nat.lt_of_lt_of_le hlt3 hbel5.size
                  refine ⟨⟨f - 1, D - T, A' + Wd, a5, n5, c5, _, by go_num, by first | go_num | (congr 1; omega), rfl, by omega, by omega, hr, hown5, B5.out, hlt5, r0, r1, rz, by omega, hbw8.out.trans hbel5⟩, ?_⟩
                  simp [intOf]
                  omega)
        · obtain rfl : D = 0 := by omega
          have hcv := conv_str (P := Try.prog) hown 49 9 5 Try.underlying49 Try.underlying5 Try.underlying9
          have hr := Lib.hid (show segRes (rSeg xs at_) = .tuple #[.agg #[.int .i64 M, .string (strOfNums tl)], .int .i64 A', .bool true] by
            rw [HS.out]
            cases f with
            | zero => simp [segL, segRes]
            | succ f => simp [segL, segRes])
          obtain ⟨t0, t1, t2⟩ := set2_end (.int .i64 M) (.string (strOfNums tl)) hB hlt x0 x1
          have T2 := Lib.hid t2
          clear t2
          go_wp2_with fail
          refine bodyPost_ret (v := .tuple #[.agg #[.int .i64 M, .string (strOfNums tl)], .int .i64 A', .bool true]) (by simp [results, Try.results34, go_sem, t0, t1]) rfl ⟨?_, T2.out⟩
          rw [hr.out]
end Go.Proofs.Ytnajjofaijpciaa
