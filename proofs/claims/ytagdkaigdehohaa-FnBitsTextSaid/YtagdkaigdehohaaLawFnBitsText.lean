/-
  The law FnBitsText holds at every input.
  Conditions: none.
-/
import Derived.Test.YtagdkaigdehohaaDrawT
import Derived.Test.YtagdkaigdehohaaTextLaws
import Derived.Test.YtagdkaigdehohaaBitLaws
import Derived.Test.YtagdkaigdehohaaLib
set_option linter.unusedVariables false
namespace Go.Proofs.Ytagdkaigdehohaa
open Go.RowKit Go.G8
set_option maxHeartbeats 1000000 in
set_option maxRecDepth 20000 in
theorem law_FnBitsText (a : Option Addr) (n c : Nat) (xs : List Int) (w : World) (h : Rd .u8 w a n xs) :
    Calls Try.prog 14 #[.slice a n c] w (Ret (.bool true) w) := by
  by_cases hbig : 4096 < n
  · go_enter Try.func14, Try.ntmps14
    go_wp2_with fail
    refine (big_any a n c _).mono ?_
    rw [decide_eq_true (by omega)]
    rintro e w1 ⟨rfl, rfl⟩
    go_wp2_with fail
    go_ret
    exact ⟨rfl, Below.refl _ _⟩
  · have hn : n ≤ 4096 := by omega
    go_enter Try.func14, Try.ntmps14
    go_wp2_with fail
    refine (big_any a n c _).mono ?_
    rw [decide_eq_false (by omega)]
    rintro e w1 ⟨rfl, rfl⟩
    go_wp2_with fail
    refine (drawStringOfBits_any a n c xs _ h hn).mono ?_
    rintro e w1 ⟨a1, n1, c1, ys, rfl, hn1, hfy, ho1, hb1⟩
    clear hbig h
    have hR1 := ho1.rd hfy
    have hcap := ho1.cap
    clear ho1
    have HL := Lib.hid (string_back (xs := ys))
    have hsz := string_size ys
    have htz := text_size ys
    have htk := text_ok ys
    have HT := Lib.hid (text_back (xs := ys))
    have hT1 := (rReadBits_ok (rBitsText ys)).1
    have hT2 := (rReadBits_ok (rBitsText ys)).2
    have HSB := Lib.hid (fun w h => implStringOfBits_any a1 n1 c1 ys w h (by omega) hcap)
    have HSC := Lib.hid (fun w h => specStringOfBits_any a1 n1 c1 ys w h (by omega) hcap)
    have HTB := Lib.hid (fun w h => implBitsText_any a1 n1 c1 ys w h (by omega))
    have HTC := Lib.hid (fun w h => specBitsText_any a1 n1 c1 ys w h (by omega))
    obtain ⟨rr, hrr⟩ : ∃ rr, rStringOfBits ys = rr := ⟨_, rfl⟩
    rw [hrr] at HL hsz HSB HSC
    obtain ⟨tt, htt⟩ : ∃ tt, rBitsText ys = tt := ⟨_, rfl⟩
    rw [htt] at htz htk HT hT1 hT2 HTB HTC
    have HRB := Lib.hid (fun w => implReadBits_any tt w (by omega))
    obtain ⟨bb, hbb⟩ : ∃ bb, rReadBits tt = bb := ⟨_, rfl⟩
    rw [hbb] at htk HT hT1 hT2 HRB
    obtain ⟨bs, bk⟩ := bb
    simp only at htk
    subst htk
    obtain ⟨s, cd⟩ := rr
    have d1 : (cd != cd) = false := by simp
    clear hrr htt hbb htz
    go_wp2_with fail
    refine (HSB.out _ hR1).mono ?_
    rintro e w2 ⟨rfl, hb2⟩
    have hB2 := bt hb1 hb2
    replace hR1 := hR1.to hb2
    clear hb1 hb2
    go_wp2_with fail
    refine (HSC.out _ hR1).mono ?_
    rintro e w3 ⟨rfl, hb3⟩
    have hB3 := bt hB2 hb3
    replace hR1 := hR1.to hb3
    clear hB2 hb3
    go_wp2_with fail
    refine (HTB.out _ hR1).mono ?_
    rintro e w4 ⟨rfl, hb4⟩
    have hB4 := bt hB3 hb4
    replace hR1 := hR1.to hb4
    clear hB3 hb4
    go_wp2_with fail
    refine (HTC.out _ hR1).mono ?_
    rintro e w5 ⟨rfl, hb5⟩
    have hB5 := bt hB4 hb5
    replace hR1 := hR1.to hb5
    clear hB4 hb5
    go_wp2_with fail
    refine (HTB.out _ hR1).mono ?_
    rintro e w6 ⟨rfl, hb6⟩
    have hB6 := bt hB5 hb6
    replace hR1 := hR1.to hb6
    clear hB5 hb6
    go_wp2_with fail
    refine (HRB.out _).mono ?_
    rintro e w7 ⟨a7, n7, c7, rfl, ho7, hb7⟩
    have hB7 := bt hB6 hb7
    replace hR1 := hR1.to hb7
    have hR7 := ho7.rd hT2
    have hl7 := ho7.len
    clear hB6 hb7 ho7
    have HI := Lib.hid (fun w h => implIsBits_any a1 n1 c1 ys w h (by omega))
    go_wp2_with fail
    refine (HI.out _ hR1).mono ?_
    cases hbit : isBits ys with
    | false =>
      rintro e w' ⟨rfl, rfl⟩
      clear HI hR7 HT
      skip
      by_cases h0 : cd = 0
      · subst h0
        obtain ⟨q1, q2⟩ := HL.out rfl
        go_wp2_with fail
        refine (implBitsOfString_any s _ (by omega)).mono ?_
        rw [q1]
        rintro e w8 ⟨a8, n8, c8, rfl, ho8, hb8⟩
        have hB8 := bt hB7 hb8
        replace hR1 := hR1.to hb8
        have hR8 := ho8.rd hfy
        have hl8 := ho8.len
        have hl1 := hR1.len
        clear hb8 ho8 q1
        go_wp2_with fail
        refine (likeInts_same a8 a1 n8 n1 c8 c1 ys _ hR8 hR1 (by omega)).mono ?_
        rintro e w9 ⟨rfl, hq9⟩
        have hB9 := bt hB8 (below_q hq9)
        go_wp2_with fail
        go_ret
        exact ⟨rfl, hB9⟩
      · have hd : (cd != 0) = true := by rw [bne_iff_ne]; exact h0
        clear h0
        go_wp2_with fail
        go_ret
        exact ⟨rfl, hB7⟩
    | true =>
      rintro e w' ⟨rfl, rfl⟩
      have hbs := HT.out hbit
      obtain rfl : ys = bs := by injection hbs with h1; exact h1.symm
      clear HI HT hbs
      go_wp2_with fail
      refine (likeInts_same a7 a1 n7 n1 c7 c1 ys _ hR7 hR1 (by omega)).mono ?_
      rintro e w' ⟨rfl, hq⟩
      have hB7' := bt hB7 (below_q hq)
      replace hR1 := hR1.to (below_q hq)
      clear hq hR7 hB7
      by_cases h0 : cd = 0
      · subst h0
        obtain ⟨q1, q2⟩ := HL.out rfl
        go_wp2_with fail
        refine (implBitsOfString_any s _ (by omega)).mono ?_
        rw [q1]
        rintro e w8 ⟨a8, n8, c8, rfl, ho8, hb8⟩
        have hB8 := bt hB7' hb8
        replace hR1 := hR1.to hb8
        have hR8 := ho8.rd hfy
        have hl8 := ho8.len
        have hl1 := hR1.len
        clear hb8 ho8 q1
        go_wp2_with fail
        refine (likeInts_same a8 a1 n8 n1 c8 c1 ys _ hR8 hR1 (by omega)).mono ?_
        rintro e w9 ⟨rfl, hq9⟩
        have hB9 := bt hB8 (below_q hq9)
        go_wp2_with fail
        go_ret
        exact ⟨rfl, hB9⟩
      · have hd : (cd != 0) = true := by rw [bne_iff_ne]; exact h0
        clear h0
        go_wp2_with fail
        go_ret
        exact ⟨rfl, hB7'⟩
end Go.Proofs.Ytagdkaigdehohaa
