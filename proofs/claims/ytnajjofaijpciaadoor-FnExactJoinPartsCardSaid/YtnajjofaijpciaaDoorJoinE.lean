/-
  Contract: the program's JoinParts.
  Conditions: lists of at most 2^20 parts.
-/
import Derived.Test.YtnajjofaijpciaaDoorJoinD
import Derived.Test.YtnajjofaijpciaaDoorPushS
set_option linter.unusedVariables false
namespace Go.Proofs.YtnajjofaijpciaaDoor
open Go.RowKit Go.G8
open Go.Maps (has size Tidy IsMap)
theorem info_u8 : (Tryd.prog.info? 5).map (fun i => (i.zero, i.size, i.bytes)) = some (some (.int .u8 0), 1, 1) := by kernel_rfl
set_option maxHeartbeats 4000000 in
set_option maxRecDepth 20000 in
theorem implJoinParts_any (a : Option Addr) (n c : Nat) (l : List PartV) (w : World) (h : RdP w a n l) (hn : n ≤ 1048576) (hl : ∀ p ∈ l, partFits p ∧ p.tx.size ≤ 1048576) :
    Calls Tryd.prog 7 #[.slice a n c] w (Ret (.tuple #[.string (rJoin l).1, .int .i64 (rJoin l).2]) w) := by
  have H := Lib.hid h
  have hlen := h.len
  obtain ⟨P, hP⟩ : ∃ P, rJoin l = P := ⟨_, rfl⟩
  have HP := Lib.hid hP.symm
  rw [hP]
  clear hP
  go_enter Tryd.func7, Tryd.ntmps7
  go_wp2_with fail
  refine (partsCode_any a n c l w h hn hl).mono ?_
  clear h
  rintro e w1 ⟨rfl, hb1⟩
  by_cases hc : codeP l = 0
  · obtain ⟨⟨hl1, hl8⟩, hall, hlike⟩ := okP_code hc
    have hget := hd_get hl1
    have hhd : hdP l ∈ l := List.mem_of_getElem? hget
    obtain ⟨hc1, -, hp1, -⟩ := okP_bd (List.all_eq_true.1 hall _ hhd)
    obtain ⟨m, hm⟩ : ∃ m : Nat, (hdP l).ct = (m : Int) := Int.eq_ofNat_of_zero_le (by omega)
    have hm8 : m ≤ 8 := by omega
    have hix : ∀ p ∈ l, 0 ≤ p.ix ∧ p.ix < (m : Int) := fun p hp => by
      have h1 := (okP_bd (List.all_eq_true.1 hall p hp)).2.1
      have h2 := List.all_eq_true.1 hlike p hp
      unfold likeP at h2
      rw [Bool.and_eq_true, decide_eq_true_eq, decide_eq_true_eq] at h2
      omega
    have hix8 : ∀ p ∈ l, 0 ≤ p.ix ∧ p.ix < 8 := fun p hp => by have := hix p hp; omega
    have hr := Lib.hid (show P = if oneP l m = true then (if parity (catP l m) = (hdP l).pr then (if 400 < (catP l m).length then (⟨#[]⟩, 3) else (strOfNums (catP l m), 0)) else (⟨#[]⟩, 7)) else (⟨#[]⟩, 5) by rw [HP.out]; unfold rJoin; rw [if_pos hc, hm, Int.toNat_natCast])
    have hc0 : (codeP l != 0) = false := by simp [hc]
    rw [hc]
    have HM0 := Lib.hid (World.ownsMap_made w1 Tryd.prog 9 (plainElem (H := Unit) Tryd.prog 9))
    have hmm := @run_makeMap Tryd.prog
    have HA1 := Lib.hid (Below.alloc (Below.refl w1.heap.size w1) (Nat.le_refl _) (.map #[] 0))
    have hund := Tryd.underlying9
    have hmap := Tryd.underlying41
    have hkeyed := Lib.hid (Go.Maps.string_keyed (P := Tryd.prog) (k := 9) hund)
    go_wp2_with fail
    go_loopw [19] (fun i wr => ∃ k : Nat, k ≤ n ∧ i = .int .i64 k ∧ wr.ownsMap Tryd.prog 9 (plainElem (H := Unit) Tryd.prog 9) w1.heap.size k (datP (l.take k)) ∧ Below w1.heap.size w1 wr) (fun i _ => n - (intOf i).toNat)
    case atStart => exact ⟨0, Nat.zero_le _, rfl, HM0.out, HA1.out⟩
    case round =>
      obtain ⟨k, hk, rfl, hown, hB⟩ := hrel
      have hBw := bt hb1 hB
      by_cases hlt : k < n
      · obtain ⟨p, hp⟩ : ∃ p, l[k]? = some p := ⟨_, List.getElem?_eq_getElem (by omega)⟩
        have hpl := List.mem_of_getElem? hp
        obtain ⟨b0, o0, rfl, hb0, c0, c1, c2, c3⟩ := (RdP.to H.out hBw).at_ hp
        have hd : decide ((k : Int) < (n : Int)) = true := by rw [decide_eq_true_eq]; omega
        have HT := Lib.hid (show l.take (k + 1) = l.take k ++ [p] by rw [List.take_add_one, hp]; rfl)
        obtain ⟨j, hj⟩ : ∃ j : Nat, p.ix = (j : Int) := Int.eq_ofNat_of_zero_le (hix8 p hpl).1
        have hj8 : j < 8 := by have := (hix8 p hpl).2; omega
        have hts : p.tx.size ≤ 400 := (okP_bd (List.all_eq_true.1 hall p hpl)).2.2.2
        have hl0 : (0 : Int) ≤ (k : Int) := by omega
        have hl1' : (k : Int) < (n : Int) := by omega
        have HF := Lib.hid (fun W => formatInt_key j hj8 W)
        rw [hj] at c0
        have hA := Below.alloc (Below.refl wr.heap.size wr) (Nat.le_refl _) (.cells #[.int .i64 (j : Int), .int .i64 p.ct, .int .i64 p.pr, .string p.tx] 38)
        obtain ⟨w5, hrun, hown5, hg5⟩ := ((hown.alloc (.cells #[.int .i64 (j : Int), .int .i64 p.ct, .int .i64 p.pr, .string p.tx] 38)).drew).update hkeyed.out hmap (by unfold maxLen; omega) (key := .string (keyB j)) (val := .string p.tx) (Go.WideMaps.keyOf_string_mk hund (by unfold maxLen; show 1 ≤ _; omega)) (plainElem_string hund (by unfold maxLen; omega))
        go_wp2_with fail
        go_region_with (first | (go_at_call 14; refine (HF.out _).mono ?_; rintro e w6 ⟨rfl, rfl⟩))
        all_goals go_wp2_with fail
        all_goals
          refine ⟨⟨k + 1, by omega, by go_num, ?_, ((bt hB hA).drew).grown hg5 (by have := hB.size; simp; omega) (fun x e => by injection e with e; omega)⟩, by simp [intOf]; omega⟩
          rw [HT.out, datP_snoc, hj, Int.toNat_natCast]
          exact hown5
      · obtain rfl : k = n := by omega
        have hd : decide ((k : Int) < (k : Int)) = false := by simp
        rw [List.take_of_length_le (by omega)] at hown
        obtain ⟨b0, o0, rfl, hb0, c0, c1, c2, c3⟩ := (RdP.to H.out hBw).at_ hget
        rw [Nat.zero_mul, Nat.add_zero] at c0 c1 c2 c3
        rw [hm] at c1
        have hl0 : (0 : Int) < (k : Int) := by omega
        have hlm := hown.len hmap
        have hone := oneP_once (l := l) (c := m) hix
        obtain ⟨z1, z2, z3⟩ := datP_size l hix8
        by_cases hkm : k = m
        · subst hkm
          by_cases ho : onceP l
          · have hzz : size (datP l) = k := by rw [z1 ho, hlen]
            have hone1 := hone.2 ⟨hlen, ho⟩
            have hr := Lib.hid (hr.out.trans (if_pos hone1))
            have hgrow := hB.size
            have hbw := hown.lt
            rw [hzz] at hlm
            have hne1 : ((k : Int) != (k : Int)) = false := by simp
            have HO := Lib.hid (Ow.empty .u8 5 wr.heap.size wr (Nat.le_refl _))
            have HAo := Lib.hid (Below.alloc (Below.refl wr.heap.size wr) (Nat.le_refl _) (.cells #[] 5))
            have HWo := Lib.hid (hown.alloc (.cells #[] 5))
            have hcnt := (oneP_iff l k).1 hone1
            obtain ⟨i0, hi, hu0, hu1, hu2⟩ := info_parts info_u8
            clear z1 z2 z3 hone
            obtain ⟨wo, rfl⟩ : ∃ wo : World, wo = wr := ⟨_, rfl⟩
            have hpr : ∀ i, i < k → ∃ p ∈ l, p.ix = (i : Int) ∧ txtP l i = p.tx := fun i hik => by
              refine Classical.byContradiction fun hne => ?_
              have h1 := hcnt i hik
              rw [cntP_none (fun p hp e => hne ⟨p, hp, e, txtP_once ho hp e⟩)] at h1
              omega
            have HPR := Lib.hid hpr
            clear hpr hcnt
            go_wp2_with fail
            go_loopw [8, 47] (fun o i wr => ∃ (j : Nat) (a' : Option Addr) (c' N : Nat), j ≤ k ∧ i = .int .i64 j ∧ o = .slice a' N c' ∧ Ow .u8 5 wo.heap.size wr a' N c' (catP l j) ∧ wr.ownsMap Tryd.prog 9 (plainElem (H := Unit) Tryd.prog 9) w1.heap.size k (strike (datP l) j) ∧ Below w1.heap.size w1 wr ∧ wo.heap.size ≤ wr.heap.size) (fun _ i _ => k - (intOf i).toNat)
            case atStart => exact ⟨0, _, _, 0, Nat.zero_le _, rfl, rfl, HO.out, HWo.out, bt hB HAo.out, HAo.out.size⟩
            case round =>
              clear hlm
              obtain ⟨j, a', c', N, hj, rfl, rfl, hrow, hmp, hB2, hsz2⟩ := hrel
              have hN := hrow.len
              have hcl := catP_len hall j
              by_cases hjk : j < k
              · have hd : decide ((j : Int) < (k : Int)) = true := by rw [decide_eq_true_eq]; omega
                obtain ⟨p, hpl, hpi, hpt⟩ := HPR.out j hjk
                have hts : p.tx.size ≤ 400 := (okP_bd (List.all_eq_true.1 hall p hpl)).2.2.2
                have HI := Lib.hid (fun W => itoa_key j (by omega) W)
                have hkey : keyOf Tryd.prog 9 (.string (keyB j)) = some (keyL j) := Go.WideMaps.keyOf_string_mk hund (by unfold maxLen; show 1 ≤ _; omega)
                have HKEY := Lib.hid hkey
                obtain ⟨v, ps, hlk, hRv⟩ := hmp.lookup hkeyed.out hmap (z := .string ⟨#[]⟩) rfl (plainElem_string hund (by decide)) hkey
                rw [strike_at (datP l) j j (Nat.le_refl _) (by omega)] at hRv
                have hat := datP_at l hix8 ho hpl (.lit (.string (ByteArray.mk #[]).data.toList))
                rw [hpi, Int.toNat_natCast] at hat
                rw [hat] at hRv
                obtain rfl := plain_str hund hRv
                have HC := Lib.hid (show catP l (j + 1) = catP l j ++ strI p.tx by rw [catP_succ, hpt])
                clear hkey hat hRv
                go_wp2_with fail
                refine (HI.out _).mono ?_
                rintro e w6 ⟨rfl, rfl⟩
                go_wp2_with (first | (at_delete; refine wpList_delete_own _ rfl _ _ 41 9 rfl 9 hkeyed.out hmap _ w1.heap.size k _ rfl hm5 _ (keyL j) rfl HKEY.out ?_; intro w7 hown7 hturn7) | (at_builtin; refine wpList_pushStr2 _ rfl _ _ 43 9 rfl wo.heap.size 5 i0 Tryd.underlying43 Tryd.underlying9 hi hu0 hu1 hu2 a' N c' _ p.tx rfl hrow rfl (by omega) hsz2 ?_; intro a5 c5 w5 hown5 hbel5; have hm5 := own_below hmp hbel5 (by omega)))
                have hs5 := hbel5.size
                refine ⟨⟨j + 1, a5, c5, N + p.tx.size, by omega, by go_num, rfl, ?_, hown7, (hB2.trans (hbel5.mono (by omega))).grown hturn7.grown (by omega) (fun x e => by injection e with e; omega), Nat.le_trans hsz2 (Nat.le_trans hs5 hturn7.grown.size)⟩, by simp [intOf]; omega⟩
                rw [HC.out]
                exact hown5.kept hturn7.grown (fun g e => by injection e with e; omega)
              · obtain rfl : j = k := by omega
                have hd : decide ((j : Int) < (j : Int)) = false := by simp
                have hcv := conv_str (P := Tryd.prog) hrow 43 9 5 Tryd.underlying43 Tryd.underlying5 Tryd.underlying9
                have hB3 := bt hb1 hB2
                clear c0 c1 c2 c3
                obtain ⟨b9, o9, e9, -, c0, c1, c2, c3⟩ := (RdP.to H.out hB3).at_ hget
                injection e9 with e9
                injection e9 with e9a e9b _
                subst e9a e9b
                rw [Nat.zero_mul, Nat.add_zero] at c0 c1 c2 c3
                have HMp := Lib.hid (fun W => implMessageParity_any (strOfNums (catP l j)) W (by rw [strOf_size2]; omega))
                rw [strI_of (catP_bytes l j)] at HMp
                rw [hN] at hr
                obtain ⟨S, hS⟩ : ∃ S, strOfNums (catP l j) = S := ⟨_, rfl⟩
                obtain ⟨Q, hQ⟩ : ∃ Q, parity (catP l j) = Q := ⟨_, rfl⟩
                rw [hS] at HMp hr hcv
                rw [hQ] at HMp hr
                have hcvd : (convert 43 9 (.slice a' N c')).run Tryd.prog wr.drew = .ok (.string S) wr.drew := by
                  have h2 := conv_str (P := Tryd.prog) (hrow.keep ((Below.refl wr.heap.size wr).drew)) 43 9 5 Tryd.underlying43 Tryd.underlying5 Tryd.underlying9
                  rwa [hS] at h2
                by_cases hpq : Q = (hdP l).pr
                · have hne : (Q != (hdP l).pr) = false := by simp [hpq]
                  have hr := Lib.hid (hr.out.trans (if_pos hpq))
                  by_cases hbig : 400 < N
                  · have hdb : decide (400 < (N : Int)) = true := by rw [decide_eq_true_eq]; omega
                    have hr : P = (⟨#[]⟩, 3) := by rw [hr.out, if_pos hbig]
                    subst hr
                    go_wp2_with fail
                    go_region_with (first | (go_at_call 16; refine (HMp.out _).mono ?_; rintro e w6 ⟨rfl, rfl⟩))
                    all_goals go_wp2_with fail
                    all_goals go_ret2
                    all_goals exact ⟨rfl, bt hb1 hB2.drew⟩
                  · have hdb : decide (400 < (N : Int)) = false := by rw [decide_eq_false_iff_not]; omega
                    have hr : P = (S, 0) := by rw [hr.out, if_neg hbig]
                    subst hr
                    go_wp2_with fail
                    go_region_with (first | (go_at_call 16; refine (HMp.out _).mono ?_; rintro e w6 ⟨rfl, rfl⟩))
                    all_goals go_wp2_with fail
                    all_goals go_ret2
                    all_goals exact ⟨rfl, bt hb1 hB2.drew⟩
                · have hne : (Q != (hdP l).pr) = true := by simpa using hpq
                  have hr : P = (⟨#[]⟩, 7) := by rw [hr.out, if_neg hpq]
                  subst hr
                  go_wp2_with fail
                  go_region_with (first | (go_at_call 16; refine (HMp.out _).mono ?_; rintro e w6 ⟨rfl, rfl⟩))
                  all_goals go_wp2_with fail
                  all_goals go_ret2
                  all_goals exact ⟨rfl, bt hb1 hB2.drew⟩
          · have hne2 : (((size (datP l) : Nat) : Int) != (k : Int)) = true := by have := z2 ho; simp; omega
            have hr : P = (⟨#[]⟩, 5) := by
              rw [hr.out, if_neg (fun x => ho (hone.1 x).2)]
            subst hr
            have hne1 : ((k : Int) != (k : Int)) = false := by simp
            go_wp2_with fail
            go_ret2
            exact ⟨rfl, hBw⟩
        · have hne1 : ((k : Int) != (m : Int)) = true := by simp; omega
          have hr : P = (⟨#[]⟩, 5) := by
            rw [hr.out, if_neg (fun x => hkm (by have := (hone.1 x).1; omega))]
          subst hr
          go_wp2_with fail
          go_ret2
          exact ⟨rfl, hBw⟩
  · have hr : P = (⟨#[]⟩, codeP l) := by rw [HP.out]; unfold rJoin; rw [if_neg hc]
    subst hr
    have h0 : (codeP l != 0) = true := by simpa using hc
    go_wp2_with fail
    go_ret2
    exact ⟨rfl, hb1⟩
end Go.Proofs.YtnajjofaijpciaaDoor
