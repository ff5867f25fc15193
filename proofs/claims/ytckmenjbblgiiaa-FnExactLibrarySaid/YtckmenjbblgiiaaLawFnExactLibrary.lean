/-
  The law FnExactLibrary holds.
  Conditions: none.
-/
import Derived.Test.YtckmenjbblgiiaaFamU
set_option linter.unusedVariables false
namespace Go.Proofs.Ytckmenjbblgiiaa
open Go.RowKit Go.G8
set_option maxHeartbeats 1000000 in
theorem law_FnExactLibrary (w : World) :
    Calls Try.prog 10 #[] w (Ret (.bool true) w) := by
  go_enter Try.func10, Try.ntmps10
  go_wp2_with fail
  refine (specLibrary_any _).mono ?_
  rintro e W1 ⟨a1, c1, l1, rfl, m1, L1, B1⟩
  go_wp2_with fail
  refine (implLibrary_any _).mono ?_
  rintro e W2 ⟨a2, c2, l2, rfl, m2, L2, B2⟩
  have hs1 := B1.size
  have hs2 := B2.size
  go_wp2_with fail
  refine (eqFamilyS_lib _ _ a2 a1 c2 c1 l2 l1 _ L2 (libAt_keep L1 B2) m2 m1).mono ?_
  rintro e W3 ⟨rfl, B3⟩
  have hs3 := B3.size
  have G3 := libAt_g (libAt_keep L2 B3)
  have hlen : (l2.map toG).length = 5 := by rw [List.length_map, lib5_len m2]
  have hsm : ∀ f ∈ l2.map toG, f.n ≤ 1000 ∧ f.m ≤ 1000 := fun f hf => by
    obtain ⟨q, hq, rfl⟩ := List.mem_map.1 hf
    exact (lib5_fits _ (show q.1 ∈ lib5 by rw [← m2]; exact List.mem_map_of_mem hq)).2
  replace B2 := B2.trans (B3.mono hs2)
  clear L2 B3
  go_wp2_with fail
  refine (markFamilyS_any W1.heap.size a2 c2 5 (l2.map toG) W3 G3 hlen (by omega) (by omega) hsm).mono ?_
  rintro e W4 ⟨rfl, G4, B4⟩
  have hs4 := B4.size
  replace B2 := B2.trans B4
  generalize hN : nxL 1 (l2.map toG) = N at *
  have d1 : decide ((N : Int) < 0) = false := by simp
  have d2 : ((N : Int) != (N : Int)) = false := by simp
  clear G3 B4
  go_wp2_with fail
  have HH := Lib.hid (fun W (hb : Below W4.heap.size W4 W) => heldFamilyS_seq W1.heap.size a2 c2 5 (l2.map toG) W (gAt_keep G4 hb) hlen (by omega) (by omega) hsm)
  rw [hN] at HH
  refine (HH.out _ (Below.refl _ _)).mono ?_
  rintro e W5 ⟨rfl, B5⟩
  have hs5 := B5.size
  go_wp2_with fail
  refine (implLibrary_any _).mono ?_
  rintro e W6 ⟨a3, c3, l3, rfl, m3, L3, B6⟩
  have hs6 := B6.size
  replace B5 := B5.trans (B6.mono hs5)
  replace B2 := B2.trans (B5.mono (by omega))
  go_wp2_with fail
  refine (eqFamilyS_lib _ _ a3 a1 c3 c1 l3 l1 _ L3 (libAt_keep L1 B2) m3 m1).mono ?_
  rintro e W7 ⟨rfl, B7⟩
  have hs7 := B7.size
  replace B5 := B5.trans (B7.mono (by omega))
  replace B2 := B2.trans (B7.mono (by omega))
  go_wp2_with fail
  refine (HH.out _ B5).mono ?_
  rintro e W8 ⟨rfl, B8⟩
  replace B2 := B2.trans (B8.mono (by omega))
  go_wp2_with fail
  go_ret
  exact ⟨rfl, B1.trans (B2.mono hs1)⟩
end Go.Proofs.Ytckmenjbblgiiaa
