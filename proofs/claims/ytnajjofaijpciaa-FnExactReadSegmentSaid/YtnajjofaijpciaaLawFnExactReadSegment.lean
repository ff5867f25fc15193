/-
  The law FnExactReadSegment holds at every input.
  Conditions: none.
-/
import Derived.Test.YtnajjofaijpciaaSegL
set_option linter.unusedVariables false
namespace Go.Proofs.Ytnajjofaijpciaa
open Go.RowKit Go.G8
set_option maxHeartbeats 1000000 in
theorem eqSegment_same (m : Int) (s : ByteArray) (w : World) :
    Calls Try.prog 11 #[.agg #[.int .i64 m, .string s], .agg #[.int .i64 m, .string s]] w (Ret (.bool true) w) := by
  have hne : (s.toList != s.toList) = false := by simp
  go_enter Try.func11, Try.ntmps11
  go_wp2_with fail
  go_ret
  exact ⟨rfl, ((Below.refl _ _).alloc (Nat.le_refl _) _).alloc (by simp) _⟩
theorem readRes_shape (xs : List Int) (at_ : Int) : ∃ (m nx code : Int) (s : ByteArray), readRes xs at_ = .tuple #[.agg #[.int .i64 m, .string s], .int .i64 nx, .int .i64 code] := by
  unfold readRes
  split
  · exact ⟨_, _, _, _, rfl⟩
  · split
    · exact ⟨_, _, _, _, rfl⟩
    · cases rSeg xs at_.toNat with
      | none => exact ⟨_, _, _, _, rfl⟩
      | some r => exact ⟨_, _, _, _, rfl⟩
set_option maxHeartbeats 1000000 in
theorem law_FnExactReadSegment (a0 : Option Addr) (n0 c0 : Nat) (x0 : List Int) (a1 : Int) (w : World) (h0 : Rd .i64 w a0 n0 x0) (h1 : fits .i64 a1) :
    Calls Try.prog 3 #[.slice a0 n0 c0, .int .i64 a1] w (Ret (.bool true) w) := by
  by_cases hbig0 : 1048576 < n0
  · go_enter Try.func3, Try.ntmps3
    go_wp2
    go_ret
    exact ⟨rfl, Below.refl _ _⟩
  · have HB := Below.refl w.heap.size w
    obtain ⟨m, nx, code, s, hres⟩ := readRes_shape x0 a1
    have HE := Lib.hid (fun w => eqSegment_same m s w)
    have e1 : (nx != nx) = false := by simp
    have e2 : (code != code) = false := by simp
    go_enter Try.func3, Try.ntmps3
    go_wp2_with fail
    refine (toInt64S_any a0 n0 c0 x0 _ (h0.to HB) (by omega)).mono ?_
    rintro e W1 ⟨a1r, n1r, c1r, rfl, ho1, hb1⟩
    replace ho1 := ho1.more HB.size
    replace HB := bt HB hb1
    clear hb1
    have hn1 : n1r ≤ 1048576 := by have e1 := ho1.len; have e2 := h0.len; omega
    go_wp2_with fail
    have HS := specReadSegment_any a1r n1r c1r a1 x0 _ (ho1.rd h0.2) hn1
    rw [hres] at HS
    refine HS.mono ?_
    rintro e W2 ⟨rfl, hb2⟩
    clear HS
    replace ho1 := ho1.keep hb2
    replace HB := bt HB hb2
    clear hb2
    have hA := Below.alloc (Below.refl W2.heap.size W2) (Nat.le_refl _) (.cells #[.int .i64 m, .string s] 24)
    obtain ⟨p0, p1, p2⟩ := new_two W2 (.int .i64 m) (.string s) 24
    replace ho1 := ho1.keep hA
    replace HB := bt HB hA
    clear hA
    go_wp2_with fail
    refine (toInt64S_any a0 n0 c0 x0 _ (h0.to HB) (by omega)).mono ?_
    rintro e W3 ⟨a3r, n3r, c3r, rfl, ho3, hb3⟩
    obtain ⟨p0, p1⟩ := keep2 hb3 p2 p0 p1
    replace p2 := Nat.lt_of_lt_of_le p2 hb3.size
    replace ho1 := ho1.keep hb3
    replace ho3 := ho3.more HB.size
    replace HB := bt HB hb3
    clear hb3
    have hn3 : n3r ≤ 1048576 := by have e1 := ho3.len; have e2 := h0.len; omega
    go_wp2_with fail
    have HI := implReadSegment_any a3r n3r c3r a1 x0 _ ho3.cap.1 ho3.cap.2 (ho3.rd h0.2) hn3
    rw [hres] at HI
    refine HI.mono ?_
    rintro e W4 ⟨rfl, hb4⟩
    clear HI
    obtain ⟨p0, p1⟩ := keep2 hb4 p2 p0 p1
    replace p2 := Nat.lt_of_lt_of_le p2 hb4.size
    replace ho1 := ho1.keep hb4
    replace ho3 := ho3.keep hb4
    replace HB := bt HB hb4
    clear hb4
    have hA := Below.alloc (Below.refl W4.heap.size W4) (Nat.le_refl _) (.cells #[.int .i64 m, .string s] 24)
    obtain ⟨q0, q1, q2⟩ := new_two W4 (.int .i64 m) (.string s) 24
    obtain ⟨p0, p1⟩ := keep2 hA p2 p0 p1
    replace ho1 := ho1.keep hA
    replace ho3 := ho3.keep hA
    replace HB := bt HB hA
    clear hA
    go_wp2_with fail
    refine (HE.out _).mono ?_
    rintro e W5 ⟨rfl, hb5⟩
    replace ho1 := ho1.keep hb5
    replace ho3 := ho3.keep hb5
    replace HB := bt HB hb5
    clear hb5
    go_wp2_with fail
    refine (toInt64S_any a0 n0 c0 x0 _ (h0.to HB) (by omega)).mono ?_
    rintro e W6 ⟨a6r, n6r, c6r, rfl, ho6, hb6⟩
    replace ho3 := ho3.keep hb6
    replace ho6 := ho6.more HB.size
    replace HB := bt HB hb6
    clear hb6
    go_wp2_with fail
    refine (eqInt64S_same a3r a6r n3r n6r c3r c6r x0 _ (ho3.rd h0.2) (ho6.rd h0.2) (by omega)).mono ?_
    rintro e W7 ⟨rfl, hq7⟩
    replace hq7 := below_q hq7
    replace HB := bt HB hq7
    go_wp2_with fail
    go_ret
    exact ⟨rfl, HB⟩
end Go.Proofs.Ytnajjofaijpciaa
