/-
  Joining, in plain words: indices once each; the map of texts as a datum.
  Conditions: named at each law.
-/
import Derived.Test.YtnajjofaijpciaaDoorJoinA
import Derived.Maps.Views
import Derived.Maps.OwnSet
set_option linter.unusedVariables false
namespace Go.Proofs.YtnajjofaijpciaaDoor
open Go.RowKit Go.G8
open Go.Maps (has size Tidy IsMap)
def cntP (l : List PartV) (k : Nat) : Nat := (textsP l k).length
def onceP (l : List PartV) : Prop := l.Pairwise (fun a b => a.ix ≠ b.ix)
theorem cntP_cons (p : PartV) (l : List PartV) (k : Nat) : cntP (p :: l) k = (if p.ix = (k : Int) then 1 else 0) + cntP l k := by
  unfold cntP textsP
  by_cases h : p.ix = (k : Int)
  · rw [List.filter_cons_of_pos (by simpa using h), if_pos h]
    simp
    omega
  · rw [List.filter_cons_of_neg (by simpa using h), if_neg h]
    omega
theorem cntP_none {l : List PartV} {k : Nat} (h : ∀ p ∈ l, p.ix ≠ (k : Int)) : cntP l k = 0 := by
  induction l with
  | nil => rfl
  | cons p l ih => rw [cntP_cons, if_neg (h p List.mem_cons_self), ih (fun q hq => h q (List.mem_cons_of_mem _ hq))]
theorem cntP_some {l : List PartV} {k : Nat} {p : PartV} (hp : p ∈ l) (h : p.ix = (k : Int)) : 1 ≤ cntP l k := by
  induction l with
  | nil => cases hp
  | cons q l ih =>
    rw [cntP_cons]
    rcases List.mem_cons.1 hp with rfl | hp
    · rw [if_pos h]; omega
    · have := ih hp; omega
theorem onceP_le {l : List PartV} (h : onceP l) (k : Nat) : cntP l k ≤ 1 := by
  induction l with
  | nil => exact Nat.zero_le _
  | cons p l ih =>
    have h' := List.pairwise_cons.1 h
    rw [cntP_cons]
    by_cases e : p.ix = (k : Int)
    · rw [if_pos e, cntP_none (fun q hq => by rw [← e]; exact fun x => h'.1 q hq x.symm)]
      omega
    · rw [if_neg e]
      have := ih h'.2
      omega
theorem onceP_of {l : List PartV} (hb : ∀ p ∈ l, 0 ≤ p.ix) (h : ∀ k, cntP l k ≤ 1) : onceP l := by
  induction l with
  | nil => exact List.Pairwise.nil
  | cons p l ih =>
    refine List.pairwise_cons.2 ⟨fun q hq e => ?_, ih (fun q hq => hb q (List.mem_cons_of_mem _ hq)) (fun k => ?_)⟩
    · have hp := hb p List.mem_cons_self
      have h1 := h p.ix.toNat
      rw [cntP_cons, if_pos (by omega)] at h1
      have h2 := cntP_some (k := p.ix.toNat) hq (by omega)
      omega
    · have := h k
      rw [cntP_cons] at this
      omega
def sumC (l : List PartV) : Nat → Nat
  | 0 => 0
  | c + 1 => sumC l c + cntP l c
theorem sumC_cons (p : PartV) (l : List PartV) (c : Nat) (h0 : 0 ≤ p.ix) : sumC (p :: l) c = (if p.ix < (c : Int) then 1 else 0) + sumC l c := by
  induction c with
  | zero => rw [if_neg (by omega)]; rfl
  | succ c ih =>
    show sumC (p :: l) c + cntP (p :: l) c = _ + (sumC l c + cntP l c)
    rw [ih, cntP_cons]
    by_cases e : p.ix = (c : Int)
    · rw [if_pos e, if_neg (by omega), if_pos (by omega)]; omega
    · rw [if_neg e]
      by_cases e2 : p.ix < (c : Int)
      · rw [if_pos e2, if_pos (by omega)]; omega
      · rw [if_neg e2, if_neg (by omega)]; omega
theorem sumC_len {l : List PartV} {c : Nat} (h : ∀ p ∈ l, 0 ≤ p.ix ∧ p.ix < (c : Int)) : sumC l c = l.length := by
  induction l with
  | nil =>
    have : ∀ c, sumC [] c = 0 := fun c => by induction c with
      | zero => rfl
      | succ c ih => show sumC [] c + cntP [] c = 0; rw [ih]; rfl
    exact this c
  | cons p l ih =>
    have := h p List.mem_cons_self
    rw [sumC_cons _ _ _ this.1, if_pos this.2, ih (fun q hq => h q (List.mem_cons_of_mem _ hq)), List.length_cons]
    omega
theorem sumC_all {l : List PartV} {c : Nat} (h : ∀ k, k < c → cntP l k = 1) : sumC l c = c := by
  induction c with
  | zero => rfl
  | succ c ih =>
    show sumC l c + cntP l c = c + 1
    rw [ih (fun k hk => h k (by omega)), h c (by omega)]
theorem sumC_le {l : List PartV} {c : Nat} (h : ∀ k, k < c → cntP l k ≤ 1) : sumC l c ≤ c := by
  induction c with
  | zero => exact Nat.le_refl _
  | succ c ih =>
    show sumC l c + cntP l c ≤ c + 1
    have := ih (fun k hk => h k (by omega))
    have := h c (by omega)
    omega
theorem sumC_full {l : List PartV} {c : Nat} (h : ∀ k, k < c → cntP l k ≤ 1) (hs : sumC l c = c) : ∀ k, k < c → cntP l k = 1 := by
  induction c with
  | zero => intro k hk; omega
  | succ c ih =>
    have hs' : sumC l c + cntP l c = c + 1 := hs
    have h1 := sumC_le (l := l) (c := c) (fun k hk => h k (by omega))
    have h2 := h c (by omega)
    intro k hk
    by_cases e : k = c
    · subst e; omega
    · exact ih (fun k hk => h k (by omega)) (by omega) k (by omega)
theorem oneP_iff (l : List PartV) (c : Nat) : oneP l c = true ↔ ∀ k, k < c → cntP l k = 1 := by
  unfold oneP cntP
  rw [List.all_eq_true]
  constructor
  · intro h k hk
    have := h k (List.mem_range.2 hk)
    rwa [decide_eq_true_eq] at this
  · intro h k hk
    rw [decide_eq_true_eq]
    exact h k (List.mem_range.1 hk)
/-- Each index has one text if there are as many parts as indices and no index twice; and only then. -/
theorem oneP_once {l : List PartV} {c : Nat} (h : ∀ p ∈ l, 0 ≤ p.ix ∧ p.ix < (c : Int)) : oneP l c = true ↔ l.length = c ∧ onceP l := by
  rw [oneP_iff]
  constructor
  · intro h1
    refine ⟨by rw [← sumC_len h, sumC_all h1], onceP_of (fun p hp => (h p hp).1) (fun k => ?_)⟩
    by_cases hk : k < c
    · rw [h1 k hk]; exact Nat.le_refl _
    · rw [cntP_none (fun p hp e => by have := h p hp; omega)]; omega
  · rintro ⟨h1, h2⟩
    exact sumC_full (fun k _ => onceP_le h2 k) (by rw [sumC_len h, h1])
theorem txtP_once {l : List PartV} (h : onceP l) {p : PartV} (hp : p ∈ l) {k : Nat} (hk : p.ix = (k : Int)) : txtP l k = p.tx := by
  induction l with
  | nil => cases hp
  | cons q l ih =>
    have h' := List.pairwise_cons.1 h
    unfold txtP textsP
    by_cases e : q.ix = (k : Int)
    · rw [List.filter_cons_of_pos (by simpa using e)]
      rcases List.mem_cons.1 hp with rfl | hp
      · rfl
      · exact absurd (e.trans hk.symm) (h'.1 p hp)
    · rw [List.filter_cons_of_neg (by simpa using e)]
      rcases List.mem_cons.1 hp with rfl | hp
      · exact absurd hk e
      · exact ih h'.2 hp
theorem once_snoc (l : List PartV) (p : PartV) : onceP (l ++ [p]) ↔ onceP l ∧ ∀ q ∈ l, q.ix ≠ p.ix := by
  unfold onceP
  rw [List.pairwise_append]
  constructor
  · rintro ⟨h1, -, h3⟩
    exact ⟨h1, fun q hq => h3 q hq p List.mem_cons_self⟩
  · rintro ⟨h1, h2⟩
    refine ⟨h1, List.pairwise_singleton _ _, fun a ha b hb => ?_⟩
    rcases List.mem_cons.1 hb with rfl | hb
    · exact h2 a ha
    · cases hb
/-- The key of an index. -/
def keyB (k : Nat) : ByteArray := strOfNums [48 + (k : Int)]
def keyL (k : Nat) : Lit := .string (keyB k).data.toList
theorem keyL_inj {a b : Nat} (ha : a < 8) (hb : b < 8) (h : keyL a = keyL b) : a = b := by
  have e : ∀ k : Nat, (keyB k).data.toList = [UInt8.ofNat (48 + (k : Int)).toNat] := fun k => rfl
  unfold keyL at h
  injection h with h
  rw [e, e] at h
  injection h with h _
  have h2 := congrArg UInt8.toNat h
  rw [UInt8.toNat_ofNat', UInt8.toNat_ofNat'] at h2
  omega
theorem keyL_key (k : Nat) : WideAt.IsKeyLit (keyL k) := by
  unfold keyL
  first | trivial | exact ⟨_, rfl⟩ | simp [WideAt.IsKeyLit]
def txL (s : ByteArray) : DataW Unit := .lit (.string s.data.toList)
def datP (l : List PartV) : DataW Unit := l.foldl (fun D p => D.put (keyL p.ix.toNat) (txL p.tx)) (.map [])
theorem datP_snoc (l : List PartV) (p : PartV) : datP (l ++ [p]) = (datP l).put (keyL p.ix.toNat) (txL p.tx) := by simp [datP, List.foldl_append]
theorem rev_ind {motive : List PartV → Prop} (h0 : motive []) (h1 : ∀ l p, motive l → motive (l ++ [p])) (l : List PartV) : motive l := by
  have : ∀ n (l : List PartV), l.length = n → motive l := by
    intro n
    induction n with
    | zero => intro l hl; rw [List.eq_nil_of_length_eq_zero hl]; exact h0
    | succ n ih =>
      intro l hl
      have hne : l ≠ [] := fun e => by rw [e] at hl; simp at hl
      rw [← List.dropLast_concat_getLast hne]
      exact h1 _ _ (ih _ (by rw [List.length_dropLast]; omega))
  exact this _ l rfl
theorem datP_tidy (l : List PartV) : Tidy (datP l) :=
  rev_ind (motive := fun l => Tidy (datP l)) Go.Maps.tidy_empty (fun l p h => by rw [datP_snoc]; exact h.put (keyL_key _) _) l
theorem datP_has (l : List PartV) (hl : ∀ p ∈ l, 0 ≤ p.ix ∧ p.ix < 8) {k : Nat} (hk : k < 8) : has (datP l) (keyL k) = l.any (fun p => decide (p.ix = (k : Int))) := by
  refine rev_ind (motive := fun l => (∀ p ∈ l, 0 ≤ p.ix ∧ p.ix < 8) → has (datP l) (keyL k) = l.any (fun p => decide (p.ix = (k : Int)))) (fun _ => rfl) (fun l p ih hl => ?_) l hl
  have hp := hl p (by simp)
  rw [datP_snoc, List.any_append, ← ih (fun q hq => hl q (by simp [hq]))]
  by_cases e : p.ix = (k : Int)
  · rw [show p.ix.toNat = k by omega, Go.Maps.has_put_same (datP_tidy l).isMap (keyL_key k)]
    simp [e]
  · rw [Go.Maps.has_put_other (fun x => e (by have := keyL_inj hk (by omega) x; omega))]
    simp [e]
theorem datP_size (l : List PartV) (hl : ∀ p ∈ l, 0 ≤ p.ix ∧ p.ix < 8) : (onceP l → size (datP l) = l.length) ∧ (¬ onceP l → size (datP l) < l.length) ∧ size (datP l) ≤ l.length := by
  refine rev_ind (motive := fun l => (∀ p ∈ l, 0 ≤ p.ix ∧ p.ix < 8) → (onceP l → size (datP l) = l.length) ∧ (¬ onceP l → size (datP l) < l.length) ∧ size (datP l) ≤ l.length) (fun _ => ⟨fun _ => rfl, fun h => absurd List.Pairwise.nil h, Nat.le_refl _⟩) (fun l p ih hl => ?_) l hl
  have hp := hl p (by simp)
  have hl' : ∀ q ∈ l, 0 ≤ q.ix ∧ q.ix < 8 := fun q hq => hl q (by simp [hq])
  obtain ⟨i1, i2, i3⟩ := ih hl'
  rw [datP_snoc, Go.Maps.size_put (datP_tidy l), datP_has l hl' (k := p.ix.toNat) (by omega), once_snoc, List.length_append, List.length_singleton]
  have e : (l.any (fun q => decide (q.ix = (p.ix.toNat : Int))) = true) ↔ ¬ ∀ q ∈ l, q.ix ≠ p.ix := by
    rw [List.any_eq_true]
    constructor
    · rintro ⟨q, hq, h⟩ hn
      rw [decide_eq_true_eq] at h
      exact hn q hq (by omega)
    · intro hn
      refine Classical.byContradiction fun hc => hn fun q hq h => hc ⟨q, hq, ?_⟩
      rw [decide_eq_true_eq]
      omega
  by_cases ha : l.any (fun q => decide (q.ix = (p.ix.toNat : Int))) = true
  · rw [if_pos ha]
    have := e.1 ha
    exact ⟨fun h => absurd h.2 this, fun _ => by omega, by omega⟩
  · rw [if_neg ha]
    have hn : ∀ q ∈ l, q.ix ≠ p.ix := Classical.not_not.1 (fun x => ha (e.2 x))
    refine ⟨fun h => by rw [i1 h.1], fun h => ?_, by omega⟩
    have := i2 (fun x => h ⟨x, hn⟩)
    omega
theorem datP_at (l : List PartV) (hl : ∀ p ∈ l, 0 ≤ p.ix ∧ p.ix < 8) (ho : onceP l) {p : PartV} (hp : p ∈ l) (z : DataW Unit) : (datP l).atKey (keyL p.ix.toNat) z = txL p.tx := by
  refine rev_ind (motive := fun l => (∀ p ∈ l, 0 ≤ p.ix ∧ p.ix < 8) → onceP l → p ∈ l → (datP l).atKey (keyL p.ix.toNat) z = txL p.tx) (fun _ _ h => by cases h) (fun l q ih hl ho hp => ?_) l hl ho hp
  have ho' := (once_snoc l q).1 ho
  have hq := hl q (by simp)
  have hl' : ∀ q ∈ l, 0 ≤ q.ix ∧ q.ix < 8 := fun r hr => hl r (by simp [hr])
  rw [datP_snoc]
  rcases List.mem_append.1 hp with hp | hp
  · have hpb := hl' p hp
    rw [Go.Maps.atKey_put_other (fun x => ho'.2 p hp (by have := keyL_inj (by omega) (by omega) x; omega))]
    exact ih hl' ho'.1 hp
  · rcases List.mem_cons.1 hp with rfl | hp
    · exact Go.Maps.atKey_put_same (datP_tidy l).isMap (keyL_key _) _ _
    · cases hp
/-- The keys of the first indices struck. -/
def strike (D : DataW Unit) : Nat → DataW Unit
  | 0 => D
  | k + 1 => (strike D k).del (keyL k)
theorem strike_at (D : DataW Unit) (k i : Nat) (hk : k ≤ i) (hi : i < 8) (z : DataW Unit) : (strike D k).atKey (keyL i) z = D.atKey (keyL i) z := by
  induction k with
  | zero => rfl
  | succ k ih =>
    show ((strike D k).del (keyL k)).atKey (keyL i) z = _
    rw [Go.Maps.atKey_del_other (fun x => by have := keyL_inj hi (by omega) x; omega)]
    exact ih (by omega)
end Go.Proofs.YtnajjofaijpciaaDoor
