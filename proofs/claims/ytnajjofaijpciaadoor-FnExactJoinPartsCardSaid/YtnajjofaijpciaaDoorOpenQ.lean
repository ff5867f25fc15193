/-
  A parameter that is a list of parts, opened.
  Conditions: none.
-/
import Derived.Test.YtnajjofaijpciaaDoorOpen
import Derived.Test.YtnajjofaijpciaaDoorPartA
import Derived.Deep.Slices
set_option linter.unusedVariables false
namespace Go.Proofs.YtnajjofaijpciaaDoor
open Go.ChangeShapes Go.WideShapes Go.RowKit Go.G8
section
variable {H : Type} {enc : TypeId × Value → H} {w w0 : World} {base b0 : Nat} {held : Bool} {r : Reach} {v : Value} {d : DataW H} {p : List MemPlace}
instance : Inhabited PartV := ⟨⟨0, 0, 0, ⟨#[]⟩⟩⟩
theorem rdP_none (w : World) : RdP w none 0 [] := ⟨rfl, fun h => absurd h (by omega)⟩
set_option maxRecDepth 100000 in
theorem open_Parts (hv : Value.okWide Tryd.prog w0 r b0 22 v) (h : DataW.Trod enc Tryd.prog w base (fun _ => true) held 22 v d p) :
    ∃ (a : Option Addr) (n c : Nat) (l : List PartV), v = .slice a n c ∧ RdP w a n l ∧ n ≤ 9223372036854775807 ∧ (∀ q ∈ l, partFits q) := by
  obtain ⟨a, n, c, rfl⟩ := okWide_slice Tryd.underlying22 hv
  obtain ⟨fuel, hf⟩ := h
  rcases Go.Deep.open_slice Tryd.underlying22 hf with ⟨hcs, _⟩ | ⟨ad, len, cap, m, k, D, Pl, hcs, hb, hl, hm, hmm, _, hx⟩
  · simp [Value.cells] at hcs
    obtain ⟨rfl, rfl, rfl⟩ := hcs
    exact ⟨none, 0, 0, [], rfl, rdP_none w, by omega, fun q hq => by simp at hq⟩
  · simp [Value.cells] at hcs
    obtain ⟨rfl, rfl, rfl⟩ := hcs
    simp only [if_true] at hmm
    subst hmm
    have each : ∀ i, i < n → ∃ q : PartV, partFits q ∧ ∀ j u, (pCs q)[j]? = some u → w.cell? (ad.add (i * 4 + j)) = some u := by
      intro i hi
      obtain ⟨cs', h1, h2⟩ := hx i (by omega)
      rw [csz_Part] at h1
      obtain ⟨_, hlen, hcell⟩ := World.cells?_some h1
      obtain ⟨cs', rfl⟩ : ∃ A : Array Value, cs' = A.toList := ⟨cs'.toArray, by simp⟩
      obtain ⟨c0, c1, c2, c3, rfl⟩ := arr4 cs' (by simpa using hlen)
      obtain ⟨n0, y0, h0⟩ := trod_at Tryd.underlying32 h2 0 _ rfl
      obtain ⟨n1, y1, h1'⟩ := trod_at Tryd.underlying32 h2 1 _ rfl
      obtain ⟨n2, y2, h2'⟩ := trod_at Tryd.underlying32 h2 2 _ rfl
      obtain ⟨n3, y3, h3⟩ := trod_at Tryd.underlying32 h2 3 _ rfl
      obtain ⟨x0, e0, f0⟩ := int_of Tryd.underlying2 h0
      obtain ⟨x1, e1, f1⟩ := int_of Tryd.underlying2 h1'
      obtain ⟨x2, e2, f2⟩ := int_of Tryd.underlying2 h2'
      obtain ⟨s, e3, f3⟩ := str_of Tryd.underlying9 h3
      simp [cells_int64, cells_string] at e0 e1 e2 e3
      subst e0 e1 e2 e3
      refine ⟨⟨x0, x1, x2, s⟩, ⟨f0, f1, f2, f3⟩, fun j u hu => ?_⟩
      have hj : j < 4 := by have := (List.getElem?_eq_some_iff.1 hu).1; exact this
      have hc := hcell j hj
      have e : (ad.add (i * 4)).add j = ad.add (i * 4 + j) := Go.Deep.add_add _ _ _
      rw [e] at hc
      exact hc.trans hu
    obtain ⟨V, hV⟩ := Go.Deep.choose_lt each
    have hlen : ((List.range n).map V).length = n := by simp
    have hget : ∀ i, i < n → ((List.range n).map V)[i]? = some (V i) := fun i hi => by rw [List.getElem?_map, List.getElem?_range hi]; rfl
    refine ⟨some ad, n, _, (List.range n).map V, rfl, ⟨by rw [pflat_len, hlen], fun hn0 => ⟨ad, rfl, ?_, fun j u hu => ?_⟩⟩, by unfold maxLen at hm; omega, fun q hq => ?_⟩
    · exact World.block_lt_of_cell? w ad ((hV 0 hn0).2 0 _ rfl)
    · have hj : j < n * 4 := by
        have := (List.getElem?_eq_some_iff.1 hu).1
        rwa [pflat_len, hlen] at this
      have h1 := pflat (hget (j / 4) (by omega)) (show j % 4 < 4 by omega)
      rw [show j / 4 * 4 + j % 4 = j by omega, hu] at h1
      have := (hV (j / 4) (by omega)).2 (j % 4) u h1.symm
      rwa [show j / 4 * 4 + j % 4 = j by omega] at this
    · obtain ⟨i, hi, rfl⟩ := List.mem_map.1 hq
      exact (hV i (List.mem_range.1 hi)).1
end
end Go.Proofs.YtnajjofaijpciaaDoor
