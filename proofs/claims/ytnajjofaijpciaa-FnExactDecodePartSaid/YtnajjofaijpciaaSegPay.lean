/-
  Contracts: PayloadSegments and DecodePayload on both sides.
  Conditions: lists of at most 1048576 numbers.
-/
import Derived.Test.YtnajjofaijpciaaSegS
import Derived.Test.YtnajjofaijpciaaStrA
import Derived.Test.YtnajjofaijpciaaPayB
set_option linter.unusedVariables false
namespace Go.Proofs.Ytnajjofaijpciaa
open Go.RowKit Go.G8
theorem fits_bit {x : Int} (h : x = 0 ∨ x = 1) : fits .i64 x := by
  unfold fits
  simp
  omega
def bitL (xs : List Int) : Prop := xs.length ≤ 8192 ∧ ∀ x ∈ xs, x = 0 ∨ x = 1
theorem lowBits_bits (x : Int) (k : Nat) : ∀ b ∈ lowBits x k, b = 0 ∨ b = 1 := by
  induction k with
  | zero => intro b hb; simp [lowBits] at hb
  | succ k ih =>
    intro b hb
    simp [lowBits] at hb
    rcases hb with rfl | hb
    · omega
    · exact ih b hb
theorem bitsL_bits (xs : List Int) (k : Nat) : ∀ b ∈ bitsL xs k, b = 0 ∨ b = 1 := by
  induction xs with
  | nil => intro b hb; simp [bitsL] at hb
  | cons x xs ih =>
    intro b hb
    simp [bitsL] at hb
    rcases hb with hb | hb
    · exact lowBits_bits x k b hb
    · exact ih b (by simpa [bitsL] using hb)
theorem rElementBits_bits (p q y : Int) (xs : List Int) : bitL (rElementBits p q y xs).1 := by
  unfold rElementBits
  split
  · split
    · split
      · exact ⟨by rw [bitsL_length, Nat.mul_comm]; omega, bitsL_bits _ _⟩
      · exact ⟨by simp, fun x hx => by cases hx⟩
    · exact ⟨by simp, fun x hx => by cases hx⟩
  · exact ⟨by simp, fun x hx => by cases hx⟩
/-- What PayloadSegments answers. -/
def rPay (p q y : Int) (xs : List Int) : List SegV × Int :=
  if (rElementBits p q y xs).2 = 0 then segsL (rElementBits p q y xs).1 ((rElementBits p q y xs).1.length + 1) 0 0 [] else ([], (rElementBits p q y xs).2)
theorem rPay_bd (p q y : Int) (xs : List Int) : sumG (rPay p q y xs).1 ≤ 400 ∧ (rPay p q y xs).1.length ≤ 800 := by
  unfold rPay
  split
  · obtain ⟨h1, h2⟩ := rElementBits_bits p q y xs
    obtain ⟨k1, k2, -, -⟩ := segsL_bd h2 ((rElementBits p q y xs).1.length + 1) 0 0 [] rfl (by omega) (by simp) (by omega)
    exact ⟨k1, by omega⟩
  · exact ⟨by show (0 : Nat) ≤ 400; omega, by simp⟩
def rDecode (p q y : Int) (xs : List Int) : ByteArray × Int :=
  if (rPay p q y xs).2 = 0 then (strOfNums (joinI (rPay p q y xs).1), 0) else (⟨#[]⟩, (rPay p q y xs).2)
set_option maxHeartbeats 1000000 in
theorem specPayloadSegments_any (p q y : Int) (a : Option Addr) (n c : Nat) (xs : List Int) (w : World) (h : Rd .i64 w a n xs) (hn : n ≤ 1000000000) :
    Calls Try.prog 13 #[.agg #[.int .i64 p, .int .i64 q, .int .i64 y], .slice a n c] w (SegsR (rPay p q y xs) w) := by
  have hbits := rElementBits_bits p q y xs
  have HA := Lib.hid (Below.alloc (Below.refl w.heap.size w) (Nat.le_refl _) (.cells #[.int .i64 p, .int .i64 q, .int .i64 y] 36))
  have H := Lib.hid h
  clear h
  obtain ⟨R, hR⟩ : ∃ R, rElementBits p q y xs = R := ⟨_, rfl⟩
  have HE := Lib.hid (fun w (h : Rd .i64 w a n xs) => specElementBits_any p q y a n c xs w h hn)
  have HP := Lib.hid (show rPay p q y xs = if R.2 = 0 then segsL R.1 (R.1.length + 1) 0 0 [] else ([], R.2) by rw [← hR]; rfl)
  rw [hR] at HE hbits
  obtain ⟨bs, code⟩ := R
  obtain ⟨P, hP⟩ : ∃ P, rPay p q y xs = P := ⟨_, rfl⟩
  rw [hP] at HP ⊢
  go_enter Try.func13, Try.ntmps13
  go_wp2_with fail
  refine (HE.out _ (H.out.to HA.out)).mono ?_
  rintro e w1 ⟨a1, n1, c1, rfl, ho, hb1⟩
  replace hb1 := bt HA.out hb1
  have hlen := ho.len
  by_cases hc : code = 0
  · subst hc
    have hr := Lib.hid (HP.out.trans (if_pos rfl))
    have h0 : ((0 : Int) != 0) = false := by simp
    go_wp2_with fail
    have HG := l11Segments_any a1 n1 c1 0 bs w1 (ho.rd (fun x hx => fits_bit (hbits.2 x hx))) (Lib.hid hbits.2) (by have := hbits.1; omega) (by omega)
    rw [← hlen, ← hr.out] at HG
    rw [← hlen]
    refine HG.mono ?_
    rintro e w2 ⟨a2, n2, c2, rfl, hn2, ho2, hb2⟩
    obtain rfl := hn2
    go_wp2_with fail
    go_ret2
    exact ⟨_, _, _, rfl, rfl, ho2.more hb1.size, bt hb1 hb2⟩
  · have hr := Lib.hid (HP.out.trans (if_neg hc))
    have h0 : (code != 0) = true := by simpa using hc
    obtain rfl := hr.out
    go_wp2_with fail
    go_ret2
    exact ⟨_, _, _, rfl, rfl, OwV.nil _ _ _ _, hb1⟩
set_option maxHeartbeats 1000000 in
theorem implPayloadSegments_any (p q y : Int) (a : Option Addr) (n c : Nat) (xs : List Int) (w : World) (h : Rd .i64 w a n xs) (hn : n ≤ 1000000000) :
    Calls Try.prog 15 #[.agg #[.int .i64 p, .int .i64 q, .int .i64 y], .slice a n c] w (SegsR (rPay p q y xs) w) := by
  have hbits := rElementBits_bits p q y xs
  have HA := Lib.hid (Below.alloc (Below.refl w.heap.size w) (Nat.le_refl _) (.cells #[.int .i64 p, .int .i64 q, .int .i64 y] 36))
  have H := Lib.hid h
  clear h
  obtain ⟨R, hR⟩ : ∃ R, rElementBits p q y xs = R := ⟨_, rfl⟩
  have HE := Lib.hid (fun w (h : Rd .i64 w a n xs) => elementBits_any p q y a n c xs w h hn)
  have HP := Lib.hid (show rPay p q y xs = if R.2 = 0 then segsL R.1 (R.1.length + 1) 0 0 [] else ([], R.2) by rw [← hR]; rfl)
  rw [hR] at HE hbits
  obtain ⟨bs, code⟩ := R
  obtain ⟨P, hP⟩ : ∃ P, rPay p q y xs = P := ⟨_, rfl⟩
  rw [hP] at HP ⊢
  go_enter Try.func15, Try.ntmps15
  go_wp2_with fail
  refine (HE.out _ (H.out.to HA.out)).mono ?_
  rintro e w1 ⟨a1, n1, c1, rfl, ho, hb1⟩
  replace hb1 := bt HA.out hb1
  have hlen := ho.len
  by_cases hc : code = 0
  · subst hc
    have hr := Lib.hid (HP.out.trans (if_pos rfl))
    have h0 : ((0 : Int) != 0) = false := by simp
    go_wp2_with fail
    have HG := readSegments_any a1 n1 c1 0 bs w1 ho.cap.1 ho.cap.2 (ho.rd (fun x hx => fits_bit (hbits.2 x hx))) (Lib.hid hbits.2) (by have := hbits.1; omega) (by omega)
    rw [← hlen, ← hr.out] at HG
    rw [← hlen]
    refine HG.mono ?_
    rintro e w2 ⟨a2, n2, c2, rfl, hn2, ho2, hb2⟩
    obtain rfl := hn2
    go_wp2_with fail
    go_ret2
    exact ⟨_, _, _, rfl, rfl, ho2.more hb1.size, bt hb1 hb2⟩
  · have hr := Lib.hid (HP.out.trans (if_neg hc))
    have h0 : (code != 0) = true := by simpa using hc
    obtain rfl := hr.out
    go_wp2_with fail
    go_ret2
    exact ⟨_, _, _, rfl, rfl, OwV.nil _ _ _ _, hb1⟩
set_option maxHeartbeats 1000000 in
set_option maxRecDepth 20000 in
theorem specDecodePayload_any (p q y : Int) (a : Option Addr) (n c : Nat) (xs : List Int) (w : World) (h : Rd .i64 w a n xs) (hn : n ≤ 1000000000) :
    Calls Try.prog 20 #[.agg #[.int .i64 p, .int .i64 q, .int .i64 y], .slice a n c] w (Ret (.tuple #[.string (rDecode p q y xs).1, .int .i64 (rDecode p q y xs).2]) w) := by
  have hbd := rPay_bd p q y xs
  have HA := Lib.hid (Below.alloc (Below.refl w.heap.size w) (Nat.le_refl _) (.cells #[.int .i64 p, .int .i64 q, .int .i64 y] 36))
  have H := Lib.hid h
  clear h
  have HE := Lib.hid (fun w (h : Rd .i64 w a n xs) => specPayloadSegments_any p q y a n c xs w h hn)
  obtain ⟨R, hR⟩ : ∃ R, rPay p q y xs = R := ⟨_, rfl⟩
  have HP := Lib.hid (show rDecode p q y xs = if R.2 = 0 then (strOfNums (joinI R.1), 0) else (⟨#[]⟩, R.2) by rw [← hR]; rfl)
  rw [hR] at HE hbd
  obtain ⟨l, code⟩ := R
  obtain ⟨P, hP⟩ : ∃ P, rDecode p q y xs = P := ⟨_, rfl⟩
  rw [hP] at HP ⊢
  go_enter Try.func20, Try.ntmps20
  go_wp2_with fail
  refine (HE.out _ (H.out.to HA.out)).mono ?_
  rintro e w1 ⟨a1, n1, c1, rfl, hn1, ho, hb1⟩
  replace hb1 := bt HA.out hb1
  obtain rfl : n1 = l.length := hn1
  by_cases hc : code = 0
  · subst hc
    have hr : P = (strOfNums (joinI l), 0) := by rw [HP.out, if_pos rfl]
    obtain ⟨S, hS⟩ : ∃ S, strOfNums (joinI l) = S := ⟨_, rfl⟩
    rw [hS] at hr
    subst hr
    have h0 : ((0 : Int) != 0) = false := by simp
    go_wp2_with fail
    refine (l11Join_any a1 l.length c1 l w1 ho.rd hbd.1 (by have := hbd.2; omega)).mono ?_
    rintro e w2 ⟨rfl, hb2⟩
    rw [hS]
    go_wp2_with fail
    go_ret2
    exact ⟨rfl, bt hb1 hb2⟩
  · have hr : P = (⟨#[]⟩, code) := by rw [HP.out, if_neg hc]
    subst hr
    have h0 : (code != 0) = true := by simpa using hc
    go_wp2_with fail
    go_ret2
    exact ⟨rfl, hb1⟩
set_option maxHeartbeats 1000000 in
set_option maxRecDepth 20000 in
theorem implDecodePayload_any (p q y : Int) (a : Option Addr) (n c : Nat) (xs : List Int) (w : World) (h : Rd .i64 w a n xs) (hn : n ≤ 1000000000) :
    Calls Try.prog 21 #[.agg #[.int .i64 p, .int .i64 q, .int .i64 y], .slice a n c] w (Ret (.tuple #[.string (rDecode p q y xs).1, .int .i64 (rDecode p q y xs).2]) w) := by
  have hbd := rPay_bd p q y xs
  have HA := Lib.hid (Below.alloc (Below.refl w.heap.size w) (Nat.le_refl _) (.cells #[.int .i64 p, .int .i64 q, .int .i64 y] 36))
  have H := Lib.hid h
  clear h
  have HE := Lib.hid (fun w (h : Rd .i64 w a n xs) => implPayloadSegments_any p q y a n c xs w h hn)
  obtain ⟨R, hR⟩ : ∃ R, rPay p q y xs = R := ⟨_, rfl⟩
  have HP := Lib.hid (show rDecode p q y xs = if R.2 = 0 then (strOfNums (joinI R.1), 0) else (⟨#[]⟩, R.2) by rw [← hR]; rfl)
  rw [hR] at HE hbd
  obtain ⟨l, code⟩ := R
  obtain ⟨P, hP⟩ : ∃ P, rDecode p q y xs = P := ⟨_, rfl⟩
  rw [hP] at HP ⊢
  go_enter Try.func21, Try.ntmps21
  go_wp2_with fail
  refine (HE.out _ (H.out.to HA.out)).mono ?_
  rintro e w1 ⟨a1, n1, c1, rfl, hn1, ho, hb1⟩
  replace hb1 := bt HA.out hb1
  obtain rfl : n1 = l.length := hn1
  by_cases hc : code = 0
  · subst hc
    have hr : P = (strOfNums (joinI l), 0) := by rw [HP.out, if_pos rfl]
    obtain ⟨S, hS⟩ : ∃ S, strOfNums (joinI l) = S := ⟨_, rfl⟩
    rw [hS] at hr
    subst hr
    have h0 : ((0 : Int) != 0) = false := by simp
    go_wp2_with fail
    refine (joined_any a1 l.length c1 l w1 ho.rd hbd.1 (by have := hbd.2; omega)).mono ?_
    rintro e w2 ⟨rfl, hb2⟩
    rw [hS]
    go_wp2_with fail
    go_ret2
    exact ⟨rfl, bt hb1 hb2⟩
  · have hr : P = (⟨#[]⟩, code) := by rw [HP.out, if_neg hc]
    subst hr
    have h0 : (code != 0) = true := by simpa using hc
    go_wp2_with fail
    go_ret2
    exact ⟨rfl, hb1⟩
end Go.Proofs.Ytnajjofaijpciaa
