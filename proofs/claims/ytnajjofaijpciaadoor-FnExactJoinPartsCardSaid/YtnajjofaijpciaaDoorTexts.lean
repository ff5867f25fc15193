/-
  Lists of lists of strings, each in a row of its own. No function of the program is walked here.
  Conditions: none.
-/
import Derived.Test.YtnajjofaijpciaaDoorPartC
import Derived.Test.YtnajjofaijpciaaDoorRowsF
set_option linter.unusedVariables false
namespace Go.Proofs.YtnajjofaijpciaaDoor
open Go.RowKit Go.G8
theorem gsT (w : World) (b i : Nat) (v : Value) : w.grownBy (w.setCell ⟨b, i, none⟩ v) (some b) := ⟨rfl, rfl, rfl, by simp, fun q hq hne => Below.heap_setCell _ _ _ q (fun e => hne (by rw [e]))⟩
structure TF where
  a : Option Addr
  n : Nat
  c : Nat
  xs : List ByteArray
def tV (f : TF) : Value := .slice f.a f.n f.c
def TRow (D : Nat) (w : World) (f : TF) : Prop := OwV 9 1 D w f.a f.n f.c (f.xs.map Value.string)
def TAt (D : Nat) (w : World) (a : Option Addr) (c : Nat) (l : List TF) : Prop :=
  OwV 36 1 D w a l.length c (l.map tV) ∧ (∀ f ∈ l, TRow D w f ∧ Apart f.a a) ∧ l.Pairwise (fun f g => Apart f.a g.a)
theorem TRow.len {D : Nat} {w : World} {f : TF} (h : TRow D w f) : f.xs.length = f.n := by
  have := OwV.len h
  rw [List.length_map] at this
  omega
theorem tAt_keep {D c : Nat} {w w' : World} {a : Option Addr} {l : List TF} (h : TAt D w a c l) (hb : Below w.heap.size w w') : TAt D w' a c l :=
  ⟨h.1.keep hb, fun f hf => ⟨OwV.keep (h.2.1 f hf).1 hb, (h.2.1 f hf).2⟩, h.2.2⟩
theorem tAt_cell {D g c k : Nat} {w : World} {l : List TF} {f : TF} (h : TAt D w (some ⟨g, 0, none⟩) c l) (hk : l[k]? = some f) : w.cell? ⟨g, k, none⟩ = some (.slice f.a f.n f.c) :=
  h.1.cellAt (by rw [List.getElem?_map, hk]; rfl)
theorem apart_none (a : Option Addr) : Apart none a := fun g h => by simp [blk] at h
/-- One more string in the list behind A: its row stays in its block or moves. -/
theorem tAt_push {D g c : Nat} {w w' : World} {A B : List TF} {f f' : TF} {s : ByteArray} (h : TAt D w (some ⟨g, 0, none⟩) c (A ++ f :: B)) (hg0 : D ≤ g)
    (ho : TRow D w' f') (hx : f'.xs = f.xs ++ [s]) (hg : (w.alloc (.cells #[.string s] 9)).grownBy w' (blk f.a)) (hbl : blk f'.a = blk f.a ∨ blk f'.a = some (w.heap.size + 1)) :
    TAt D (w'.setCell ⟨g, A.length, none⟩ (.slice f'.a f'.n f'.c)) (some ⟨g, 0, none⟩) c (A ++ f' :: B) := by
  have hal := Below.alloc (Below.refl w.heap.size w) (Nat.le_refl _) (.cells #[.string s] 9)
  have hs1 : (w.alloc (.cells #[.string s] 9)).heap.size = w.heap.size + 1 := by simp
  have hm : f ∈ A ++ f :: B := List.mem_append.2 (.inr List.mem_cons_self)
  obtain ⟨f1, f2⟩ := h.2.1 f hm
  have hgs := gsT w' g A.length (.slice f'.a f'.n f'.c)
  have hglt : g < w.heap.size := (h.1.lt g rfl).2
  -- blocks of the old world that are apart from f's are apart from the new ones
  have hap : ∀ r : Option Addr, (∀ x, blk r = some x → x < w.heap.size) → Apart r f.a → Apart r f'.a := fun r hr har x g1 g2 => by
    rcases hbl with e | e
    · exact har x g1 (by rw [← e]; exact g2)
    · rw [e] at g2
      injection g2 with g2
      have := hr x g1
      omega
  have hap2 : ∀ r : Option Addr, (∀ x, blk r = some x → x < w.heap.size) → Apart f.a r → Apart f'.a r := fun r hr har x g1 g2 => by
    rcases hbl with e | e
    · exact har x (by rw [← e]; exact g1) g2
    · rw [e] at g1
      injection g1 with g1
      have := hr x g2
      omega
  have hlt : ∀ r ∈ A ++ f :: B, ∀ x, blk r.a = some x → x < w.heap.size := fun r hr x e => (OwV.lt (h.2.1 r hr).1 x e).2
  have hga : ∀ x, blk (some ⟨g, 0, none⟩) = some x → x < w.heap.size := fun x e => by
    simp [blk] at e
    omega
  refine ⟨?_, fun r hr => ?_, ?_⟩
  · have h1 := (h.1.keep hal).sep hg (fun x y z => f2 x z y)
    have h2 := h1.set_ A.length (.slice f'.a f'.n f'.c)
    rw [show (A ++ f' :: B).length = (A ++ f :: B).length by simp]
    have e : ((A ++ f :: B).map tV).set A.length (.slice f'.a f'.n f'.c) = (A ++ f' :: B).map tV := by
      rw [List.map_append, List.map_append, List.map_cons, List.map_cons, List.set_append_right _ _ (by simp), List.length_map]
      simp [tV]
    rw [e] at h2
    exact h2
  · have hr' : r = f' ∨ (r ∈ A ∨ r ∈ B) := by
      rcases List.mem_append.1 hr with h | h
      · exact .inr (.inl h)
      · rcases List.mem_cons.1 h with h | h
        · exact .inl h
        · exact .inr (.inr h)
    rcases hr' with rfl | hr'
    · exact ⟨OwV.sep (a' := some ⟨g, 0, none⟩) ho hgs (hap2 _ hga f2), hap2 _ hga f2⟩
    · have hmr : r ∈ A ++ f :: B := by
        rcases hr' with h | h
        · exact List.mem_append.2 (.inl h)
        · exact List.mem_append.2 (.inr (List.mem_cons_of_mem _ h))
      have hfar : Apart r.a f.a := by
        have hp := List.pairwise_append.1 h.2.2
        rcases hr' with h' | h'
        · exact hp.2.2 r h' f List.mem_cons_self
        · have := (List.pairwise_cons.1 hp.2.1).1 r h'
          exact fun x y z => this x z y
      obtain ⟨k1, k2⟩ := h.2.1 r hmr
      exact ⟨OwV.sep (a' := some ⟨g, 0, none⟩) (OwV.sep (OwV.keep k1 hal) hg hfar) hgs k2, k2⟩
  · have hp := List.pairwise_append.1 h.2.2
    rw [List.pairwise_append]
    refine ⟨hp.1, ?_, fun p hp' r hr => ?_⟩
    · rw [List.pairwise_cons]
      exact ⟨fun r hr => hap2 _ (hlt r (List.mem_append.2 (.inr (List.mem_cons_of_mem _ hr)))) ((List.pairwise_cons.1 hp.2.1).1 r hr), (List.pairwise_cons.1 hp.2.1).2⟩
    · rcases List.mem_cons.1 hr with rfl | hr
      · exact hap _ (hlt p (List.mem_append.2 (.inl hp'))) (hp.2.2 p hp' f List.mem_cons_self)
      · exact hp.2.2 p hp' r (List.mem_cons_of_mem _ hr)
def zT : TF := ⟨none, 0, 0, []⟩
/-- Empty lists. -/
theorem tAt_made {D g n : Nat} {w : World} (h : OwV 36 1 D w (some ⟨g, 0, none⟩) n n (List.replicate n (.slice none 0 0))) : TAt D w (some ⟨g, 0, none⟩) n (List.replicate n zT) := by
  refine ⟨?_, fun f hf => ?_, ?_⟩
  · rw [List.length_replicate, List.map_replicate]
    exact h
  · rw [List.eq_of_mem_replicate hf]
    exact ⟨OwV.nil _ _ _ _, apart_none _⟩
  · rw [List.pairwise_replicate]
    exact .inr (apart_none _)
end Go.Proofs.YtnajjofaijpciaaDoor
