/-
  Contract: the reference's JoinParts.
  Conditions: lists of at most 2^20 parts.
-/
import Derived.Test.YtnajjofaijpciaaDoorJoinA
set_option linter.unusedVariables false
namespace Go.Proofs.YtnajjofaijpciaaDoor
open Go.RowKit Go.G8
set_option maxHeartbeats 2000000 in
set_option maxRecDepth 20000 in
theorem specJoinParts_any (a : Option Addr) (n c : Nat) (l : List PartV) (w : World) (h : RdP w a n l) (hn : n ≤ 1048576) (hl : ∀ p ∈ l, partFits p ∧ p.tx.size ≤ 1048576) :
    Calls Tryd.prog 5 #[.slice a n c] w (Ret (.tuple #[.string (rJoin l).1, .int .i64 (rJoin l).2]) w) := by
  have H := Lib.hid h
  have hlen := h.len
  obtain ⟨P, hP⟩ : ∃ P, rJoin l = P := ⟨_, rfl⟩
  have HP := Lib.hid hP.symm
  rw [hP]
  clear hP
  go_enter Tryd.func5, Tryd.ntmps5
  go_wp2_with fail
  refine (l12Parts_any a n c l w h hn hl).mono ?_
  clear h
  by_cases hc : codeP l = 0
  · rintro e w1 ⟨hb1, hres⟩
    rw [if_pos hc] at hres
    obtain ⟨g, m, ts, rfl, hm, hT, htl, hx⟩ := hres
    obtain ⟨⟨hl1, hl8⟩, hall, hlike⟩ := okP_code hc
    have hget := hd_get hl1
    have hhd : hdP l ∈ l := List.mem_of_getElem? hget
    obtain ⟨hc1, -, hp1, -⟩ := okP_bd (List.all_eq_true.1 hall _ hhd)
    have hm1 : (hdP l).ct.toNat = m := by omega
    have hm8 : m ≤ 8 := by omega
    clear hm
    have hr := Lib.hid (show P = if oneP l m = true then (if parity (catP l m) = (hdP l).pr then (if 400 < (catP l m).length then (⟨#[]⟩, 3) else (strOfNums (catP l m), 0)) else (⟨#[]⟩, 7)) else (⟨#[]⟩, 5) by rw [HP.out]; unfold rJoin; rw [if_pos hc, hm1])
    have hbytes := Lib.hid (catP_bytes l m)
    go_wp2_with fail
    go_loopw [6, 7] (fun o k wr => ∃ j : Nat, j ≤ m ∧ k = .int .i64 j ∧ o = .string (strOfNums (catP l j)) ∧ oneP l j = true ∧ Below w1.heap.size w1 wr) (fun _ k _ => m - (intOf k).toNat)
    case atStart => exact ⟨0, Nat.zero_le _, rfl, rfl, rfl, Below.refl _ _⟩
    case round =>
      obtain ⟨j, hj, rfl, rfl, hone, hB⟩ := hrel
      have hTw := tAt_keep hT hB
      by_cases hlt : j < m
      · obtain ⟨f, hf⟩ : ∃ f, ts[j]? = some f := ⟨_, List.getElem?_eq_getElem (by omega)⟩
        have hcell := tAt_cell hTw hf
        have hfx := hx j f hf
        have hrow := (hTw.2.1 f (List.mem_of_getElem? hf)).1
        have hfl := hrow.len
        rw [hfx] at hfl
        have hd : decide ((j : Int) < (m : Int)) = true := by rw [decide_eq_true_eq]; omega
        by_cases hone1 : (textsP l j).length = 1
        · obtain ⟨fa, fn, fc, fxs⟩ := f
          replace hcell : wr.cell? ⟨g, j, none⟩ = some (.slice fa fn fc) := hcell
          replace hfl : (textsP l j).length = fn := hfl
          replace hfx : fxs = textsP l j := hfx
          obtain rfl : fn = 1 := by omega
          obtain ⟨r, hra, -, hrlt⟩ := OwV.form hrow Nat.one_pos
          obtain rfl : fa = some ⟨r, 0, none⟩ := hra
          have ht0 : fxs[0]? = some (txtP l j) := by
            rw [hfx]
            unfold txtP
            cases e : textsP l j with
            | nil => rw [e] at hone1; simp at hone1
            | cons s q => rfl
          have hc0 : wr.cell? ⟨r, 0, none⟩ = some (.string (txtP l j)) := OwV.cellAt (j := 0) hrow (by show (fxs.map Value.string)[0]? = _; rw [List.getElem?_map, ht0]; rfl)
          have hone2 : oneP l (j + 1) = true := by rw [oneP_succ, hone, hone1]; rfl
          have HJ := Lib.hid (show strOfNums (catP l (j + 1)) = strOfNums (catP l j) ++ txtP l j by rw [catP_succ, strOf_app2])
          have hsz := catP_len hall j
          rw [← strOf_size2] at hsz
          have hst := txtP_size hall j
          obtain ⟨S, hS⟩ : ∃ S, strOfNums (catP l j) = S := ⟨_, rfl⟩
          obtain ⟨T, hT'⟩ : ∃ T, txtP l j = T := ⟨_, rfl⟩
          rw [hS] at hsz HJ ⊢
          rw [hT'] at hst HJ hc0
          have hb : ¬ 9223372036854775807 < S.size + T.size := by omega
          clear hrow hTw ht0
          go_wp2_with fail
          go_roundw
          case rel => exact ⟨j + 1, by omega, by go_num, by rw [HJ.out], hone2, hB⟩
          case measure => simp [intOf]; omega
        · have hb := oneP_bad hlt hone1
          have hr : P = (⟨#[]⟩, 5) := by rw [hr.out, hb]; rfl
          subst hr
          have hne : ((f.n : Int) != 1) = true := by simp; omega
          go_wp2_with fail
          go_ret2
          exact ⟨rfl, bt hb1 hB⟩
      · obtain rfl : j = m := by omega
        have hd : decide ((j : Int) < (j : Int)) = false := by simp
        have hr := Lib.hid (show P = if parity (catP l j) = (hdP l).pr then (if 400 < (catP l j).length then (⟨#[]⟩, 3) else (strOfNums (catP l j), 0)) else (⟨#[]⟩, 7) by rw [hr.out, hone]; rfl)
        have HM := Lib.hid (fun W => specMessageParity_any (strOfNums (catP l j)) W (by rw [strOf_size2]; have := catP_len hall j; omega))
        rw [strI_of hbytes.out] at HM
        have hsz := strOf_size2 (catP l j)
        obtain ⟨S, hS⟩ : ∃ S, strOfNums (catP l j) = S := ⟨_, rfl⟩
        rw [hS] at HM hr hsz ⊢
        rw [← hsz] at hr
        obtain ⟨Q, hQ⟩ : ∃ Q, parity (catP l j) = Q := ⟨_, rfl⟩
        rw [hQ] at HM hr
        have HSZ := Lib.hid hsz
        clear hsz
        obtain ⟨b0, o0, rfl, hb0, c0, c1, c2, c3⟩ := (RdP.to H.out (bt hb1 hB)).at_ hget
        rw [Nat.zero_mul, Nat.add_zero] at c0 c1 c2 c3
        have hn0 : (0 : Int) < (n : Int) := by omega
        by_cases hpr : Q = (hdP l).pr
        · have hne : (Q != (hdP l).pr) = false := by simp [hpr]
          have hr := Lib.hid (hr.out.trans (if_pos hpr))
          by_cases hbig : 400 < S.size
          · have hdb : decide (400 < (S.size : Int)) = true := by rw [decide_eq_true_eq]; omega
            have hr : P = (⟨#[]⟩, 3) := by rw [hr.out, if_pos hbig]
            subst hr
            go_wp2_with fail
            go_quiet (first | (go_at_call 11; refine (HM.out _).mono ?_; rintro e w' ⟨rfl, rfl⟩; exact ⟨rfl, _, rfl⟩))
            go_wp2_with fail
            go_ret2
            exact ⟨rfl, bt hb1 (below_drewN hB _)⟩
          · have hdb : decide (400 < (S.size : Int)) = false := by rw [decide_eq_false_iff_not]; omega
            have hr : P = (S, 0) := by rw [hr.out, if_neg hbig]
            subst hr
            go_wp2_with fail
            go_quiet (first | (go_at_call 11; refine (HM.out _).mono ?_; rintro e w' ⟨rfl, rfl⟩; exact ⟨rfl, _, rfl⟩))
            go_wp2_with fail
            go_ret2
            exact ⟨rfl, bt hb1 (below_drewN hB _)⟩
        · have hne : (Q != (hdP l).pr) = true := by simpa using hpr
          have hr : P = (⟨#[]⟩, 7) := by rw [hr.out, if_neg hpr]
          subst hr
          go_wp2_with fail
          go_quiet (first | (go_at_call 11; refine (HM.out _).mono ?_; rintro e w' ⟨rfl, rfl⟩; exact ⟨rfl, _, rfl⟩))
          go_wp2_with fail
          go_ret2
          exact ⟨rfl, bt hb1 (below_drewN hB _)⟩
  · rintro e w1 ⟨hb1, hres⟩
    rw [if_neg hc] at hres
    subst hres
    have hr : P = (⟨#[]⟩, codeP l) := by rw [HP.out]; unfold rJoin; rw [if_neg hc]
    subst hr
    have h0 : (codeP l != 0) = true := by simpa using hc
    go_wp2_with fail
    go_ret2
    exact ⟨rfl, hb1⟩
end Go.Proofs.YtnajjofaijpciaaDoor
