/-
  The law FnExactIsBits holds at every input.
  Conditions: none.
-/
import Derived.Test.YtcpndbdpafkbbaaL01a
namespace Go.Proofs.Ytcpndbdpafkbbaa
open Go.RowKit Go.G8
theorem law_FnExactIsBits (a : Option Addr) (n c : Nat) (xs : List Int) (w : World) (h : Rd .i64 w a n xs) :
    Calls Try.prog 3 #[.slice a n c] w (Ret (.bool true) w) := by
  by_cases hbig : 1048576 < n
  · go_enter Try.func3, Try.ntmps3
    go_wp2
    go_ret
    exact ⟨rfl, Below.refl _ _⟩
  · go_enter Try.func3, Try.ntmps3
    go_wp2_with fail
    refine (toInt64S_any a n c xs _ h (by omega)).mono ?_
    rintro e w1 ⟨a1, n1, c1, rfl, ho1, hb1⟩
    have hn1 : n1 ≤ 1048576 := by have := ho1.len; have := h.len; omega
    go_wp2_with fail
    refine (specIsBits_any a1 n1 c1 xs _ (ho1.rd h.2) (by omega)).mono ?_
    rintro e w' ⟨rfl, rfl⟩
    go_wp2_with fail
    refine (toInt64S_any a n c xs _ (h.to hb1) (by omega)).mono ?_
    rintro e w2 ⟨a2, n2, c2, rfl, ho2, hb2⟩
    have hn2 : n2 ≤ 1048576 := by have := ho2.len; have := h.len; omega
    go_wp2_with fail
    refine (implIsBits_any a2 n2 c2 xs _ (ho2.rd h.2) (by omega)).mono ?_
    rintro e w' ⟨rfl, rfl⟩
    go_wp2_with fail
    refine (toInt64S_any a n c xs _ (h.to (bt hb1 hb2)) (by omega)).mono ?_
    rintro e w3 ⟨a3, n3, c3, rfl, ho3, hb3⟩
    go_wp2_with fail
    refine (eqInt64S_same a2 a3 n2 n3 c2 c3 xs _ ((ho2.keep hb3).rd h.2) (ho3.rd h.2) (by omega)).mono ?_
    rintro e w4 ⟨rfl, m, rfl⟩
    go_wp2_with fail
    go_ret
    exact ⟨rfl, below_drewN (bt (bt hb1 hb2) hb3) _⟩
end Go.Proofs.Ytcpndbdpafkbbaa
