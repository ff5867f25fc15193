/-
  Lists of families with their rows, and what marks do to them; no function of the program is walked here.
  Conditions: none.
-/
import Derived.Test.YtckmenjbblgiiaaFamQ
import Derived.Test.YtckmenjbblgiiaaMarkT
set_option linter.unusedVariables false
namespace Go.Proofs.Ytckmenjbblgiiaa
open Go.RowKit Go.G8
/-- A row: what lies in its cells, and the numbers of its two lists. -/
structure GF where
  nm : ByteArray
  kd : Int
  p : Int
  q : Int
  y : Int
  co : Int
  a : Option Addr
  n : Nat
  c : Nat
  b : Option Addr
  m : Nat
  d : Nat
  xs : List Int
  ys : List Int
def gCs (f : GF) : List Value := [.string f.nm, .int .i64 f.kd, .int .i64 f.p, .int .i64 f.q, .int .i64 f.y, .slice f.a f.n f.c, .int .i64 f.co, .slice f.b f.m f.d]
def GRow (D : Nat) (w : World) (f : GF) : Prop := Ow .i64 2 D w f.a f.n f.c f.xs ∧ Ow .i64 2 D w f.b f.m f.d f.ys ∧ Apart f.a f.b
def GFar (f g : GF) : Prop := Apart f.a g.a ∧ Apart f.a g.b ∧ Apart f.b g.a ∧ Apart f.b g.b
def GAt (D : Nat) (w : World) (a : Option Addr) (c : Nat) (l : List GF) : Prop :=
  OwV 57 8 D w a l.length c (l.flatMap gCs) ∧ (∀ f ∈ l, GRow D w f ∧ Apart f.a a ∧ Apart f.b a) ∧ l.Pairwise GFar
def toG (q : FamV × FamD) : GF := ⟨q.1.nm, q.1.kd, (rFieldOf q.1.sz).1.1, (rFieldOf q.1.sz).1.2.1, (rFieldOf q.1.sz).1.2.2, q.1.co, q.2.a, q.1.xs.length, q.2.c, q.2.b, q.1.ys.length, q.2.d, q.1.xs, q.1.ys⟩
theorem libAt_g {D c : Nat} {w : World} {a : Option Addr} {l : List (FamV × FamD)} (h : LibAt D w a c l) : GAt D w a c (l.map toG) := by
  refine ⟨?_, fun f hf => ?_, ?_⟩
  · rw [List.length_map, List.flatMap_map]
    exact h.1
  · obtain ⟨q, hq, rfl⟩ := List.mem_map.1 hf
    exact h.2.1 q hq
  · rw [List.pairwise_map]
    exact h.2.2
theorem gAt_keep {D c : Nat} {w w' : World} {a : Option Addr} {l : List GF} (h : GAt D w a c l) (hb : Below w.heap.size w w') : GAt D w' a c l :=
  ⟨h.1.keep hb, fun f hf => ⟨⟨(h.2.1 f hf).1.1.keep hb, (h.2.1 f hf).1.2.1.keep hb, (h.2.1 f hf).1.2.2⟩, (h.2.1 f hf).2⟩, h.2.2⟩
theorem gAt_more {D D' c : Nat} {w : World} {a : Option Addr} {l : List GF} (h : GAt D w a c l) (hD : D' ≤ D) : GAt D' w a c l :=
  ⟨h.1.more hD, fun f hf => ⟨⟨(h.2.1 f hf).1.1.more hD, (h.2.1 f hf).1.2.1.more hD, (h.2.1 f hf).1.2.2⟩, (h.2.1 f hf).2⟩, h.2.2⟩
theorem gflat8 {l : List GF} {k j : Nat} {f : GF} (h : l[k]? = some f) (hj : j < 8) : (l.flatMap gCs)[k * 8 + j]? = (gCs f)[j]? := by
  induction l generalizing k with
  | nil => simp at h
  | cons p l ih =>
    rw [List.flatMap_cons]
    have hp : (gCs p).length = 8 := rfl
    cases k with
    | zero =>
      obtain rfl : p = f := by simpa using h
      rw [List.getElem?_append_left (by omega)]
      simp
    | succ k =>
      rw [List.getElem?_append_right (by omega), hp, show (k + 1) * 8 + j - 8 = k * 8 + j by omega]
      exact ih (by simpa using h)
theorem gAt_cells {D g c k : Nat} {w : World} {l : List GF} {f : GF} (h : GAt D w (some ⟨g, 0, none⟩) c l) (hk : l[k]? = some f) :
    w.cell? ⟨g, k * 8, none⟩ = some (.string f.nm) ∧ w.cell? ⟨g, k * 8 + 1, none⟩ = some (.int .i64 f.kd) ∧ w.cell? ⟨g, k * 8 + 2, none⟩ = some (.int .i64 f.p) ∧ w.cell? ⟨g, k * 8 + 3, none⟩ = some (.int .i64 f.q) ∧ w.cell? ⟨g, k * 8 + 4, none⟩ = some (.int .i64 f.y) ∧ w.cell? ⟨g, k * 8 + 5, none⟩ = some (.slice f.a f.n f.c) ∧ w.cell? ⟨g, k * 8 + 6, none⟩ = some (.int .i64 f.co) ∧ w.cell? ⟨g, k * 8 + 7, none⟩ = some (.slice f.b f.m f.d) := by
  have c := fun j (hj : j < 8) v (hv : (gCs f)[j]? = some v) => h.1.cellAt ((gflat8 hk hj).trans hv)
  exact ⟨c 0 (by omega) _ rfl, c 1 (by omega) _ rfl, c 2 (by omega) _ rfl, c 3 (by omega) _ rfl, c 4 (by omega) _ rfl, c 5 (by omega) _ rfl, c 6 (by omega) _ rfl, c 7 (by omega) _ rfl⟩
theorem flat_len (A : List GF) : (A.flatMap gCs).length = A.length * 8 := by
  induction A with
  | nil => rfl
  | cons p l ih => rw [List.flatMap_cons, List.length_append, ih, List.length_cons]; show 8 + _ = _; omega
theorem gflat_set (A B : List GF) (f f' : GF) (i : Nat) (v : Value) (hi : i < 8) (hf : gCs f' = (gCs f).set i v) : ((A ++ f :: B).flatMap gCs).set (A.length * 8 + i) v = (A ++ f' :: B).flatMap gCs := by
  have h8 : (gCs f).length = 8 := rfl
  rw [List.flatMap_append, List.flatMap_append, List.flatMap_cons, List.flatMap_cons, List.set_append_right _ _ (by rw [flat_len]; omega), flat_len, show A.length * 8 + i - A.length * 8 = i by omega, List.set_append_left _ _ (by omega), hf]
/-- The two lists of a row lie where they lay. -/
def sameD (f f' : GF) : Prop := f'.a = f.a ∧ f'.n = f.n ∧ f'.c = f.c ∧ f'.b = f.b ∧ f'.m = f.m ∧ f'.d = f.d
theorem far_mid {A B : List GF} {f f' : GF} (h : (A ++ f :: B).Pairwise GFar) (hs : sameD f f') : (A ++ f' :: B).Pairwise GFar := by
  obtain ⟨s1, s2, s3, s4, s5, s6⟩ := hs
  have e1 : ∀ g, GFar g f → GFar g f' := fun g ⟨k1, k2, k3, k4⟩ => ⟨by rw [s1]; exact k1, by rw [s4]; exact k2, by rw [s1]; exact k3, by rw [s4]; exact k4⟩
  have e2 : ∀ g, GFar f g → GFar f' g := fun g ⟨k1, k2, k3, k4⟩ => ⟨by rw [s1]; exact k1, by rw [s1]; exact k2, by rw [s4]; exact k3, by rw [s4]; exact k4⟩
  rw [List.pairwise_append] at h ⊢
  refine ⟨h.1, ?_, fun p hp r hr => ?_⟩
  · rw [List.pairwise_cons] at h ⊢
    exact ⟨fun r hr => e2 r (h.2.1.1 r hr), h.2.1.2⟩
  · rcases List.mem_cons.1 hr with rfl | hr
    · exact e1 p (h.2.2 p hp f List.mem_cons_self)
    · exact h.2.2 p hp r (List.mem_cons_of_mem _ hr)
theorem mid_cases {A B : List GF} {f r : GF} (h : r ∈ A ++ f :: B) : r = f ∨ (r ∈ A ∨ r ∈ B) := by
  rcases List.mem_append.1 h with h | h
  · exact .inr (.inl h)
  · rcases List.mem_cons.1 h with h | h
    · exact .inl h
    · exact .inr (.inr h)
theorem mid_mem {A B : List GF} (f : GF) {r : GF} (h : r ∈ A ∨ r ∈ B) : r ∈ A ++ f :: B := by
  rcases h with h | h
  · exact List.mem_append.2 (.inl h)
  · exact List.mem_append.2 (.inr (List.mem_cons_of_mem _ h))
/-- A store into a cell of the row behind A. -/
theorem gAt_set {D g c : Nat} {w : World} {A B : List GF} {f f' : GF} (h : GAt D w (some ⟨g, 0, none⟩) c (A ++ f :: B)) (i : Nat) (v : Value) (hi : i < 8) (hf : gCs f' = (gCs f).set i v) (hs : sameD f f') (hx : f'.xs = f.xs) (hy : f'.ys = f.ys) :
    GAt D (w.setCell ⟨g, A.length * 8 + i, none⟩ v) (some ⟨g, 0, none⟩) c (A ++ f' :: B) := by
  have hg := gs w g (A.length * 8 + i) v
  have hrow : ∀ r ∈ A ++ f :: B, GRow D (w.setCell ⟨g, A.length * 8 + i, none⟩ v) r := fun r hr => by
    obtain ⟨⟨k1, k2, k3⟩, k4, k5⟩ := h.2.1 r hr
    exact ⟨k1.sep (a' := some ⟨g, 0, none⟩) hg k4, k2.sep (a' := some ⟨g, 0, none⟩) hg k5, k3⟩
  refine ⟨?_, fun r hr => ?_, far_mid h.2.2 hs⟩
  · have := h.1.set_ (A.length * 8 + i) v
    rw [gflat_set A B f f' i v hi hf] at this
    rw [show (A ++ f' :: B).length = (A ++ f :: B).length by simp]
    exact this
  · rcases mid_cases hr with rfl | hr
    · obtain ⟨s1, s2, s3, s4, s5, s6⟩ := hs
      have hm : f ∈ A ++ f :: B := List.mem_append.2 (.inr List.mem_cons_self)
      obtain ⟨k1, k2, k3⟩ := hrow f hm
      obtain ⟨-, k4, k5⟩ := h.2.1 f hm
      refine ⟨⟨?_, ?_, ?_⟩, ?_, ?_⟩
      · rw [s1, s2, s3, hx]; exact k1
      · rw [s4, s5, s6, hy]; exact k2
      · rw [s1, s4]; exact k3
      · rw [s1]; exact k4
      · rw [s4]; exact k5
    · have hm := mid_mem f hr
      exact ⟨hrow r hm, (h.2.1 r hm).2⟩
/-- The first list of the row behind A is written anew. -/
theorem gAt_xs {D c : Nat} {w w' : World} {a : Option Addr} {A B : List GF} {f : GF} {zs : List Int} (h : GAt D w a c (A ++ f :: B)) (ho : Ow .i64 2 D w' f.a f.n f.c zs) (hg : w.grownBy w' (blk f.a)) :
    GAt D w' a c (A ++ { f with xs := zs } :: B) := by
  have hm : f ∈ A ++ f :: B := List.mem_append.2 (.inr List.mem_cons_self)
  obtain ⟨⟨f1, f2, f3⟩, f4, f5⟩ := h.2.1 f hm
  refine ⟨?_, fun r hr => ?_, far_mid h.2.2 ⟨rfl, rfl, rfl, rfl, rfl, rfl⟩⟩
  · have := h.1.sep hg (fun g x y => f4 g y x)
    simp only [List.length_append, List.length_cons, List.flatMap_append, List.flatMap_cons] at this ⊢
    exact this
  · rcases mid_cases hr with rfl | hr
    · exact ⟨⟨ho, f2.sep hg (fun g x y => f3 g y x), f3⟩, f4, f5⟩
    · obtain ⟨⟨k1, k2, k3⟩, k4, k5⟩ := h.2.1 r (mid_mem f hr)
      have hfar : Apart r.a f.a ∧ Apart r.b f.a := by
        have hp := List.pairwise_append.1 h.2.2
        rcases hr with hr | hr
        · have := hp.2.2 r hr f List.mem_cons_self
          exact ⟨this.1, this.2.2.1⟩
        · have := (List.pairwise_cons.1 hp.2.1).1 r hr
          exact ⟨fun g x y => this.1 g y x, fun g x y => this.2.1 g y x⟩
      exact ⟨⟨k1.sep hg hfar.1, k2.sep hg hfar.2, k3⟩, k4, k5⟩
theorem gAt_ys {D c : Nat} {w w' : World} {a : Option Addr} {A B : List GF} {f : GF} {zs : List Int} (h : GAt D w a c (A ++ f :: B)) (ho : Ow .i64 2 D w' f.b f.m f.d zs) (hg : w.grownBy w' (blk f.b)) :
    GAt D w' a c (A ++ { f with ys := zs } :: B) := by
  have hm : f ∈ A ++ f :: B := List.mem_append.2 (.inr List.mem_cons_self)
  obtain ⟨⟨f1, f2, f3⟩, f4, f5⟩ := h.2.1 f hm
  refine ⟨?_, fun r hr => ?_, far_mid h.2.2 ⟨rfl, rfl, rfl, rfl, rfl, rfl⟩⟩
  · have := h.1.sep hg (fun g x y => f5 g y x)
    simp only [List.length_append, List.length_cons, List.flatMap_append, List.flatMap_cons] at this ⊢
    exact this
  · rcases mid_cases hr with rfl | hr
    · exact ⟨⟨f1.sep hg f3, ho, f3⟩, f4, f5⟩
    · obtain ⟨⟨k1, k2, k3⟩, k4, k5⟩ := h.2.1 r (mid_mem f hr)
      have hfar : Apart r.a f.b ∧ Apart r.b f.b := by
        have hp := List.pairwise_append.1 h.2.2
        rcases hr with hr | hr
        · have := hp.2.2 r hr f List.mem_cons_self
          exact ⟨this.2.1, this.2.2.2⟩
        · have := (List.pairwise_cons.1 hp.2.1).1 r hr
          exact ⟨fun g x y => this.2.2.1 g y x, fun g x y => this.2.2.2 g y x⟩
      exact ⟨⟨k1.sep hg hfar.1, k2.sep hg hfar.2, k3⟩, k4, k5⟩
def mkG (k : Nat) (f : GF) : GF := { f with nm := markT k, kd := (k : Int) + 1, p := (k : Int) + 2, q := (k : Int) + 3, y := (k : Int) + 4, co := (k : Int) + 5 + f.n, xs := seqI ((k : Int) + 5) f.n, ys := seqI ((k : Int) + 6 + f.n) f.m }
def nxG (k : Nat) (f : GF) : Nat := k + 6 + f.n + f.m
def mkL : Nat → List GF → List GF
  | _, [] => []
  | k, f :: l => mkG k f :: mkL (nxG k f) l
def nxL : Nat → List GF → Nat
  | k, [] => k
  | k, f :: l => nxL (nxG k f) l
theorem mkL_snoc (k : Nat) (l : List GF) (f : GF) : mkL k (l ++ [f]) = mkL k l ++ [mkG (nxL k l) f] := by
  induction l generalizing k with
  | nil => rfl
  | cons p l ih => show mkG k p :: mkL (nxG k p) (l ++ [f]) = mkG k p :: (mkL (nxG k p) l ++ _); rw [ih]; rfl
theorem nxL_snoc (k : Nat) (l : List GF) (f : GF) : nxL k (l ++ [f]) = nxG (nxL k l) f := by
  induction l generalizing k with
  | nil => rfl
  | cons p l ih => exact ih _
theorem mkL_len (k : Nat) (l : List GF) : (mkL k l).length = l.length := by
  induction l generalizing k with
  | nil => rfl
  | cons p l ih => show (mkL _ l).length + 1 = _; rw [ih]; rfl
theorem mkL_get {k : Nat} {l : List GF} {j : Nat} {f : GF} (h : l[j]? = some f) : (mkL k l)[j]? = some (mkG (nxL k (l.take j)) f) := by
  induction l generalizing k j with
  | nil => simp at h
  | cons p l ih =>
    cases j with
    | zero =>
      obtain rfl : p = f := by simpa using h
      rfl
    | succ j =>
      show (mkL (nxG k p) l)[j]? = _
      rw [ih (by simpa using h)]
      rfl
theorem nxL_le {k : Nat} {l : List GF} (h : ∀ f ∈ l, f.n ≤ 1000 ∧ f.m ≤ 1000) : nxL k l ≤ k + 2006 * l.length := by
  induction l generalizing k with
  | nil => exact Nat.le_refl _
  | cons p l ih =>
    have h1 := h p List.mem_cons_self
    have h2 := ih (k := nxG k p) (fun f hf => h f (List.mem_cons_of_mem _ hf))
    show nxL (nxG k p) l ≤ _
    rw [List.length_cons]
    unfold nxG at *
    omega
theorem nxL_ge (k : Nat) (l : List GF) : k ≤ nxL k l := by
  induction l generalizing k with
  | nil => exact Nat.le_refl _
  | cons p l ih =>
    have := ih (nxG k p)
    show k ≤ nxL (nxG k p) l
    unfold nxG at *
    omega
end Go.Proofs.Ytckmenjbblgiiaa
