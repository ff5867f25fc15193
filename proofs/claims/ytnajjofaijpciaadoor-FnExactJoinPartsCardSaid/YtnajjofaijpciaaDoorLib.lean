/-
  Contracts of the helpers of package laws: copies, comparisons and marks of slices of int64.
  Conditions: lengths of at most 2^20; comparisons of equal lists; marks that are read back.
-/
import Derived.Test.YtnajjofaijpciaaDoorProg
import Derived.Test.YtnajjofaijpciaaDoorBase
namespace Go.Proofs.YtnajjofaijpciaaDoor
open Go.RowKit Go.G8
theorem info_int64 : (Tryd.prog.info? 2).map (fun i => (i.zero, i.size, i.bytes)) = some (some (.int .i64 0), 1, 8) := by kernel_rfl

/-- k, k + 1, .. : n numbers. -/
def seqI (k : Int) (n : Nat) : List Int := (List.range n).map (fun j : Nat => k + (j : Int))
theorem seqI_get (k : Int) (n j : Nat) (h : j < n) : (seqI k n)[j]? = some (k + j) := by simp [seqI, h]
theorem seqI_length (k : Int) (n : Nat) : (seqI k n).length = n := by simp [seqI]
theorem seqI_fits (k : Int) (n : Nat) (h0 : 0 ≤ k) (h1 : k + n ≤ 9223372036854775807) : ∀ x ∈ seqI k n, fits .i64 x := by
  intro x hx
  simp only [seqI, List.mem_map, List.mem_range] at hx
  obtain ⟨j, hj, rfl⟩ := hx
  show -9223372036854775808 ≤ _ ∧ _ ≤ _
  omega
/-- The row in the middle of its marking: j marks, the rest as it was. -/
theorem mark_set (xs : List Int) (k : Int) (j : Nat) (h : j < xs.length) : (seqI k j ++ xs.drop j).set j (k + j) = seqI k (j + 1) ++ xs.drop (j + 1) := by
  have e : seqI k (j + 1) = seqI k j ++ [k + (j : Int)] := by simp [seqI, List.range_succ]
  rw [List.set_append, if_neg (by simp [seqI_length]), seqI_length, Nat.sub_self, List.drop_eq_getElem_cons h, e, List.append_assoc]
  rfl

end Go.Proofs.YtnajjofaijpciaaDoor
