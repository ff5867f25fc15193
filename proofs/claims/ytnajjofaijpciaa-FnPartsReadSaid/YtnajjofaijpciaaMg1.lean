/-
  Texts of the proof, one behind the other: each bears its own heading.
  Conditions: as the headings say.
-/
import Derived.WalkKit
import Derived.Lib.Hide
import Derived.Deep.QuietTactic
import Derived.BigQuiet
import Derived.Deep.DeepCutAuto
import Derived.Deep.AppendLies
import Derived.Deep.Draws
import Derived.Maps.AppendAt
import Derived.RegionTactic
import Derived.WalkSpells
import Derived.StillTailTactics
import Derived.Deep.RegionHeld3
import Derived.Test.YtnajjofaijpciaaProg
/-
  Words and small laws on slices of int64 that are read or owned; no program is named here.
  Conditions: none.
-/
namespace Go.G8
open Go.RowKit

/-! ### A slice that reads as a list (after the guide's extra-words) -/
theorem block_of_add (a : Addr) (n : Nat) : (a.add n).block = a.block := by unfold Addr.add; split <;> rfl
theorem add_of_add (a : Addr) (i j : Nat) : (a.add i).add j = a.add (i + j) := by
  unfold Addr.add
  by_cases hi : i = 0 <;> by_cases hj : j = 0 <;> simp [hi, hj, Nat.add_assoc]

def Reads (w : World) (B size : Nat) (A : Option Addr) (n : Nat) (xs : List Value) : Prop :=
  xs.length = n * size ∧ (0 < n → ∃ ad, A = some ad ∧ ad.block < B ∧ ∀ j u, xs[j]? = some u → w.cell? (ad.add j) = some u)

section
variable {w w' : World} {B B' size n : Nat} {A : Option Addr} {xs : List Value}
theorem Reads.at_ {k : Nat} (h : Reads w B 1 A n xs) (hk : k < n) : ∃ ad u, A = some ad ∧ ad.block < B ∧ xs[k]? = some u ∧ w.cell? (ad.add k) = some u := by
  obtain ⟨ad, e, hb, hc⟩ := h.2 (by omega)
  have hl : k < xs.length := by have := h.1; omega
  exact ⟨ad, xs[k], e, hb, List.getElem?_eq_getElem hl, hc k _ (List.getElem?_eq_getElem hl)⟩
theorem Reads.keep (h : Reads w B size A n xs) (hk : ∀ p : Addr, p.block < B → w'.cell? p = w.cell? p) : Reads w' B size A n xs :=
  ⟨h.1, fun hn => by
    obtain ⟨ad, e, hb, hc⟩ := h.2 hn
    exact ⟨ad, e, hb, fun j u hu => (hk _ (by rw [block_of_add]; exact hb)).trans (hc j u hu)⟩⟩
theorem Reads.more (h : Reads w B size A n xs) (hB : B ≤ B') : Reads w B' size A n xs :=
  ⟨h.1, fun hn => by
    obtain ⟨ad, e, hb, hc⟩ := h.2 hn
    exact ⟨ad, e, by omega, hc⟩⟩
theorem Reads.below (h : Reads w B size A n xs) (hb : Below B w w') : Reads w' B size A n xs := h.keep fun _ hp => hb.cell hp
theorem Reads.of_own {base : Nat} {e : TypeId} {c : Nat} (h : w.ownsRow base e size (.slice A n c) n xs) : Reads w w.heap.size size A n xs := by
  refine ⟨h.1, fun hn => ?_⟩
  obtain ⟨g, cap, hv, _, hlt⟩ := h.form hn
  have hA : A = some ⟨g, 0, none⟩ := by injection hv
  subst hA
  exact ⟨_, rfl, hlt, h.cells (g := g) rfl⟩
end

/-! ### rows of integers of one kind -/
def fits (k : IntKind) (x : Int) : Prop := match k with
  | .u8 => 0 ≤ x ∧ x ≤ 255
  | .i64 => -9223372036854775808 ≤ x ∧ x ≤ 9223372036854775807
  | _ => True
def ints (k : IntKind) (xs : List Int) : List Value := xs.map (Value.int k)
section
variable {K : IntKind}
theorem ints_length (xs : List Int) : (ints K xs).length = xs.length := by simp [ints]
theorem ints_append (xs ys : List Int) : ints K (xs ++ ys) = ints K xs ++ ints K ys := by simp [ints]
theorem ints_set (xs : List Int) (k : Nat) (x : Int) : (ints K xs).set k (.int K x) = ints K (xs.set k x) := by simp [ints, List.map_set]
theorem ints_oneC (xs : List Int) : ∀ u ∈ ints K xs, u.oneCell' = true := ints_oneCell _ _
theorem ints_get {xs : List Int} {k : Nat} {x : Int} (h : xs[k]? = some x) : (ints K xs)[k]? = some (.int K x) := by simp [ints, h]
end

/-- The slice (a, n, ..) reads as the list xs. -/
def Rd (K : IntKind) (w : World) (a : Option Addr) (n : Nat) (xs : List Int) : Prop := Reads w w.heap.size 1 a n (ints K xs) ∧ ∀ x ∈ xs, fits K x
/-- The slice (a, n, c) lies in a block of its own, from block B on. -/
def Ow (K : IntKind) (E : TypeId) (B : Nat) (w : World) (a : Option Addr) (n c : Nat) (xs : List Int) : Prop := w.ownsRow B E 1 (.slice a n c) n (ints K xs)

def blk (a : Option Addr) : Option Nat := a.map (·.block)
theorem ownBlock_slice (a : Option Addr) (n c : Nat) : (Value.slice a n c).ownBlock = blk a := by cases a <;> rfl

theorem bt {w w1 w2 : World} (h : Below w.heap.size w w1) (k : Below w1.heap.size w1 w2) : Below w.heap.size w w2 := h.trans (k.mono h.size)
theorem below_drewN {B : Nat} {a w : World} (h : Below B a w) (n : Nat) : Below B a (w.drewN n) := ⟨h.os, h.tape, h.output, h.size, h.block⟩

section
variable {K : IntKind} {w w' : World} {a : Option Addr} {n c B E : Nat} {xs ys : List Int}
theorem Rd.len (h : Rd K w a n xs) : xs.length = n := by have := h.1.1; simpa [ints] using this
theorem Rd.to (h : Rd K w a n xs) (hb : Below w.heap.size w w') : Rd K w' a n xs := ⟨(h.1.below hb).more hb.size, h.2⟩
theorem Rd.nil (w : World) (a : Option Addr) : Rd K w a 0 [] := ⟨⟨by simp [ints], fun h => absurd h (by omega)⟩, by simp⟩
theorem Rd.atK (h : Rd K w a n xs) {k : Nat} (hk : k < n) : ∃ b o x, a = some ⟨b, o, none⟩ ∧ b < w.heap.size ∧ w.cell? ⟨b, o + k, none⟩ = some (.int K x) ∧ Hid (xs[k]? = some x) ∧ fits K x := by
  obtain ⟨ad, rfl, hb, hc⟩ := h.1.2 (by omega)
  have hl := h.len
  have h0 := hc 0 _ (ints_get (List.getElem?_eq_getElem (show 0 < xs.length by omega)))
  have hx : xs[k]? = some xs[k] := List.getElem?_eq_getElem (by omega)
  have hck := hc k _ (ints_get hx)
  have hw := h.2 xs[k] (List.getElem_mem (by omega))
  obtain ⟨b, o, spot⟩ := ad
  obtain rfl : spot = none := World.cell?_spot h0
  exact ⟨b, o, xs[k], rfl, hb, by simpa [Addr.add_lit] using hck, hx, hw⟩
theorem Rd.at_ (h : Rd .i64 w a n xs) {k : Nat} (hk : k < n) : ∃ b o x, a = some ⟨b, o, none⟩ ∧ b < w.heap.size ∧ w.cell? ⟨b, o + k, none⟩ = some (.int .i64 x) ∧ Hid (xs[k]? = some x) ∧ -9223372036854775808 ≤ x ∧ x ≤ 9223372036854775807 := h.atK hk
theorem Rd.at8 (h : Rd .u8 w a n xs) {k : Nat} (hk : k < n) : ∃ b o x, a = some ⟨b, o, none⟩ ∧ b < w.heap.size ∧ w.cell? ⟨b, o + k, none⟩ = some (.int .u8 x) ∧ Hid (xs[k]? = some x) ∧ 0 ≤ x ∧ x ≤ 255 := h.atK hk
/-- The same where the address is known. -/
theorem Rd.cell {b o : Nat} (h : Rd K w (some ⟨b, o, none⟩) n xs) {k : Nat} (hk : k < n) : ∃ x, w.cell? ⟨b, o + k, none⟩ = some (.int K x) ∧ Hid (xs[k]? = some x) ∧ fits K x := by
  obtain ⟨b', o', x, ha, -, hc, hx, hf⟩ := h.atK hk
  injection ha with ha; injection ha with h1 h2; subst h1 h2
  exact ⟨x, hc, hx, hf⟩
theorem Ow.rd (h : Ow K E B w a n c xs) (hx : ∀ x ∈ xs, fits K x) : Rd K w a n xs := ⟨Reads.of_own h, hx⟩
theorem Ow.len (h : Ow K E B w a n c xs) : xs.length = n := by have := h.1; simpa [ints] using this
theorem Ow.keep (h : Ow K E B w a n c xs) (hb : Below w.heap.size w w') : Ow K E B w' a n c xs := by
  refine World.ownsRow.kept (row := none) h ⟨hb.os, hb.tape, hb.output, hb.size, fun k hk _ => hb.block k hk⟩ ?_
  cases hv : (Value.slice a n c).ownBlock <;> simp
theorem Ow.kept {r : Option Nat} (h : Ow K E B w a n c xs) (hg : w.grownBy w' r) (hr : ∀ g, r = some g → g < B) : Ow K E B w' a n c xs := by
  refine World.ownsRow.kept h hg ?_
  cases hv : (Value.slice a n c).ownBlock with
  | none => exact .inl rfl
  | some g =>
    refine .inr (fun e => ?_)
    have := World.ownsRow.lt h g hv
    have := hr g e.symm
    omega
/-- A row stays owned where all below a bound beyond its block is kept. -/
theorem Ow.under {B' : Nat} (h : Ow K E B w a n c xs) (hb : Below B' w w') (hr : ∀ g, blk a = some g → g < B') : Ow K E B w' a n c xs := by
  refine ⟨h.1, ?_⟩
  rcases h.2 with hn | ⟨g, cap, cur, hv, hbg, hgg, rest⟩
  · exact .inl hn
  · refine .inr ⟨g, cap, cur, hv, hbg, ?_, rest⟩
    have hA : a = some ⟨g, 0, none⟩ := by injection hv
    rw [hb.block g (hr g (by rw [hA]; rfl))]
    exact hgg
theorem Ow.lt (h : Ow K E B w a n c xs) : ∀ g, blk a = some g → B ≤ g ∧ g < w.heap.size := by
  intro g hg
  exact World.ownsRow.lt h g (by rw [ownBlock_slice]; exact hg)
theorem Ow.more {B' : Nat} (h : Ow K E B w a n c xs) (hB : B' ≤ B) : Ow K E B' w a n c xs := by
  refine ⟨h.1, ?_⟩
  rcases h.2 with hn | ⟨g, cap, cur, hv, hbg, rest⟩
  · exact .inl hn
  · exact .inr ⟨g, cap, cur, hv, by omega, rest⟩
theorem Ow.cap (h : Ow K E B w a n c xs) : n ≤ c ∧ c ≤ 9223372036854775807 := by
  rcases h.2 with ⟨hv, rfl⟩ | ⟨g, cap, cur, hv, _, _, hn, hm, _⟩
  · injection hv with _ _ h3; omega
  · injection hv with _ _ h3; subst h3; exact ⟨hn, hm⟩
theorem Ow.nil (w : World) (E B : Nat) : Ow K E B w none 0 0 [] := World.ownsRow_nil _ _ _ _
theorem own_slice {size : Nat} {v : Value} {xs : List Value} (h : w.ownsRow B E size v n xs) : ∃ a c, v = .slice a n c := by
  rcases h.2 with ⟨rfl, rfl⟩ | ⟨g, cap, cur, rfl, _⟩
  · exact ⟨none, 0, rfl⟩
  · exact ⟨_, _, rfl⟩
end

/-- Old cells and old marks read as before: two rules for the walk. -/
theorem bcell {W w1 : World} (hb : Below W.heap.size W w1) : (∀ b o, b < W.heap.size → w1.cell? ⟨b, o, none⟩ = W.cell? ⟨b, o, none⟩) ∧ (∀ b o, b < W.heap.size → w1.frozen? ⟨b, o, none⟩ = W.frozen? ⟨b, o, none⟩) :=
  ⟨fun b o h => hb.cell (p := ⟨b, o, none⟩) h, fun b o h => hb.frozen (p := ⟨b, o, none⟩) h⟩

/-- The call hands back one value and leaves the world. -/
def RetS (v : Value) (w : World) (e : Ending) (w' : World) : Prop := e = .returned v ∧ w = w'
/-- The call hands back one value and turns nothing that was there. -/
def Ret (v : Value) (w : World) (e : Ending) (w' : World) : Prop := e = .returned v ∧ Below w.heap.size w w'
/-- The call hands back one value; it has only drawn. -/
def RetQ (v : Value) (w : World) (e : Ending) (w' : World) : Prop := e = .returned v ∧ ∃ m, w' = w.drewN m
/-- The call hands back a list in a block from B on. -/
def GrowRow (K : IntKind) (E : TypeId) (B : Nat) (xs : List Int) (w : World) (e : Ending) (w' : World) : Prop :=
  ∃ a n c, e = .returned (.slice a n c) ∧ Ow K E B w' a n c xs ∧ Below B w w'
/-- The call hands back a new list. -/
def RetRow (K : IntKind) (E : TypeId) (xs : List Int) (w : World) (e : Ending) (w' : World) : Prop := GrowRow K E w.heap.size xs w e w'
/-- The call hands back a new list and one value more. -/
def RetRow2 (K : IntKind) (E : TypeId) (xs : List Int) (v : Value) (w : World) (e : Ending) (w' : World) : Prop :=
  ∃ a n c, e = .returned (.tuple #[.slice a n c, v]) ∧ Ow K E w.heap.size w' a n c xs ∧ Below w.heap.size w w'

theorem ret_int {k : IntKind} {a b : Int} (h : a = b) : Ending.returned (.int k a) = .returned (.int k b) := by rw [h]
theorem ret_bool {a b : Bool} (h : a = b) : Ending.returned (.bool a) = .returned (.bool b) := by rw [h]

theorem retRow2_of {K : IntKind} {E : TypeId} {xs : List Int} {k : Int} {r : List Int × Int} {w w' : World} {a : Option Addr} {n c : Nat} (h : r = (xs, k)) (ho : Ow K E w.heap.size w' a n c xs) (hb : Below w.heap.size w w') :
    RetRow2 K E r.1 (.int .i64 r.2) w (.returned (.tuple #[.slice a n c, .int .i64 k])) w' := by subst h; exact ⟨a, n, c, rfl, ho, hb⟩
theorem retRow2_nil {K : IntKind} {E : TypeId} {k : Int} {r : List Int × Int} {w w' : World} (h : r = ([], k)) (hb : Below w.heap.size w w') :
    RetRow2 K E r.1 (.int .i64 r.2) w (.returned (.tuple #[.slice none 0 0, .int .i64 k])) w' := retRow2_of h (Ow.nil _ _ _) hb
theorem retRow2b_of {K : IntKind} {E : TypeId} {xs : List Int} {k : Bool} {r : List Int × Bool} {w w' : World} {a : Option Addr} {n c : Nat} (h : r = (xs, k)) (ho : Ow K E w.heap.size w' a n c xs) (hb : Below w.heap.size w w') :
    RetRow2 K E r.1 (.bool r.2) w (.returned (.tuple #[.slice a n c, .bool k])) w' := by subst h; exact ⟨a, n, c, rfl, ho, hb⟩
theorem retRow2b_nil {K : IntKind} {E : TypeId} {k : Bool} {r : List Int × Bool} {w w' : World} (h : r = ([], k)) (hb : Below w.heap.size w w') :
    RetRow2 K E r.1 (.bool r.2) w (.returned (.tuple #[.slice none 0 0, .bool k])) w' := retRow2b_of h (Ow.nil _ _ _) hb
theorem ret2_int {k : IntKind} {a b : Int} {r : Int × Int} (h : r = (a, b)) : Ending.returned (.tuple #[.int k a, .int k b]) = .returned (.tuple #[.int k r.1, .int k r.2]) := by rw [h]

/-! ### rows that are filled, rows that grow -/
section
variable {K : IntKind} {w w' : World} {g n c B E : Nat} {xs ys : List Int}
theorem Ow.set_ (h : Ow K E B w (some ⟨g, 0, none⟩) n c xs) (k : Nat) (x : Int) : Ow K E B (w.setCell ⟨g, k, none⟩ (.int K x)) (some ⟨g, 0, none⟩) n c (xs.set k x) := by
  have := (World.ownsRow.stored h k (.int K x)).1
  rwa [ints_set] at this
theorem Ow.grow (h : Ow K E B w (some ⟨g, 0, none⟩) n c xs) (k : Nat) (u : Value) : w.grownBy (w.setCell ⟨g, k, none⟩ u) (some g) := (World.ownsRow.stored h k u).2
theorem Ow.cell (h : Ow K E B w (some ⟨g, 0, none⟩) n c xs) {k : Nat} {x : Int} (hx : xs[k]? = some x) : w.cell? ⟨g, k, none⟩ = some (.int K x) := by
  have hl := h.len
  have hk : k < xs.length := (List.getElem?_eq_some_iff.1 hx).1
  rw [World.ownsRow.cellAt h k (by omega), ints_get hx]
theorem Ow.free (h : Ow K E B w (some ⟨g, 0, none⟩) n c xs) (k : Nat) : w.frozen? ⟨g, k, none⟩ = false := World.ownsRow.frozenAt h k
/-- What a slice that is owned looks like where it holds something. -/
theorem Ow.form {a : Option Addr} (h : Ow K E B w a n c xs) (hn : 0 < n) : ∃ g, a = some ⟨g, 0, none⟩ ∧ B ≤ g ∧ g < w.heap.size := by
  obtain ⟨g, cap, hv, hb, hlt⟩ := World.ownsRow.form h hn
  have hA : a = some ⟨g, 0, none⟩ := by injection hv
  exact ⟨g, hA, hb, hlt⟩
theorem Ow.alloc {a : Option Addr} (h : Ow K E B w a n c xs) (o : Obj) : Ow K E B (w.alloc o) a n c xs := World.ownsRow.alloc h o
theorem Ow.lit (w : World) (hB : B ≤ w.heap.size) (hn : xs.length ≤ 4611686018427387904) : Ow K E B (w.alloc (.cells (ints K xs).toArray E)) (some ⟨w.heap.size, 0, none⟩) xs.length xs.length xs := by
  have := World.ownsRow_lit (base := B) (e := E) (size := 1) w (ints K xs).toArray xs.length hB (by unfold maxLen; omega) (by simp [ints])
  simpa [Ow] using this
end

/-- A row stays while another one is written. -/
theorem Ow.sep {K : IntKind} {E B : Nat} {w w' : World} {a a' : Option Addr} {n c : Nat} {xs : List Int} (h : Ow K E B w a n c xs) (hg : w.grownBy w' (blk a')) (hne : ∀ g, blk a = some g → blk a' ≠ some g) : Ow K E B w' a n c xs := by
  refine World.ownsRow.kept h hg ?_
  rw [ownBlock_slice]
  cases hv : blk a with
  | none => exact .inl rfl
  | some g => exact .inr (fun e => hne g hv e.symm)
def Apart (a b : Option Addr) : Prop := ∀ g, blk a = some g → blk b ≠ some g
theorem Apart.symm {a b : Option Addr} (h : Apart a b) : Apart b a := fun g h1 h2 => h g h2 h1
theorem apart_new {K K' : IntKind} {E E' B n c m d : Nat} {w w' : World} {a b : Option Addr} {xs ys : List Int} (h : Ow K E B w a n c xs) (k : Ow K' E' w.heap.size w' b m d ys) : Apart a b := fun g h1 h2 => by
  have := (h.lt g h1).2
  have := (k.lt g h2).1
  omega
theorem below_mark {K : IntKind} {E B n c : Nat} {w w' w0 : World} {a : Option Addr} {xs : List Int} (hb : Below B w0 w) (h : Ow K E B w a n c xs) (hB : B ≤ w0.heap.size) (hg : w.grownBy w' (blk a)) : Below B w0 w' :=
  hb.grown hg (Nat.le_trans hB hb.size) (fun g e => (h.lt g e).1)
theorem below_q {w w' : World} (h : ∃ m, w' = w.drewN m) : Below w.heap.size w w' := by obtain ⟨m, rfl⟩ := h; exact below_drewN (Below.refl _ _) m
/-- Bytes to a string. -/
theorem conv_str {P : Program} {E B : Nat} {w : World} {a : Option Addr} {n c : Nat} {xs : List Int} (h : Ow .u8 E B w a n c xs) (src dst e : TypeId) (hs : P.underlying src = some (.slice e)) (he : P.underlying e = some (.int .u8)) (hd : P.underlying dst = some .string) :
    (convert src dst (.slice a n c)).run P w = .ok (.string (strOfNums xs)) w := by
  have hl := h.len
  rcases a with _ | ad
  · have hn : n = 0 := by
      rcases h.2 with ⟨_, h0⟩ | ⟨g, cap, cur, hv, _⟩
      · exact h0
      · cases hv
    subst hn
    obtain rfl := List.eq_nil_of_length_eq_zero hl
    exact run_convert_bytes_nil w src e hs he 0 c dst hd
  · obtain ⟨g, rfl⟩ : ∃ g, ad = ⟨g, 0, none⟩ := by
      rcases h.2 with ⟨hv, _⟩ | ⟨g, cap, cur, hv, _⟩
      · cases hv
      · injection hv with h1; injection h1 with h1; exact ⟨g, h1⟩
    refine run_convert_bytes_arg w src e hs he g 0 n c xs hl (fun i hi => ?_) dst hd
    rw [Nat.zero_add]
    refine h.cell ?_
    rw [List.getD_eq_getElem?_getD, List.getElem?_eq_getElem (by omega)]
    rfl

/-- 'append(out, y)': out is owned, y lies in the new block that the walk has just made. -/
theorem wpList_push {P : Program} (K : IntKind) (wr : World) {ops : Array Oper} {rest : List Oper} {o : Oper} {act : Act} {Q : Exit → Act → World → Prop} (hgd : o.guard = none) (s x : Operand) (t : TypeId)
    (ho : o.op = .call { callee := .builtin .append, args := #[s, x], argTypes := #[t, t] })
    (B : Nat) (E E' : TypeId) (i : TypeInfo) (bytes : Nat) (ht : P.underlying t = some (.slice E)) (hi : P.info? E = some i) (hz : i.zero = some (.int K 0)) (h1 : i.size = 1) (h2 : i.bytes = bytes) (h8 : bytes ≤ 8)
    (a : Option Addr) (n c : Nat) (xs : List Int) (y : Int) (hs : act.eval s = .slice a n c) (hown : Ow K E B wr a n c xs) (hx : act.eval x = .slice (some ⟨wr.heap.size, 0, none⟩) 1 1)
    (hn : n ≤ 1000000000) (hB : B ≤ wr.heap.size)
    (hK : ∀ a' n' c' w', Ow K E B w' a' n' c' (xs ++ [y]) → Below B wr w' → wpList P ops Q rest (act.put o.dst (.slice a' n' c')) w') :
    wpList P ops Q (o :: rest) act (wr.alloc (.cells #[.int K y] E')) := by
  refine wpList_append_own _ hgd s x t ho B E i (.int K 0) 1 bytes ht hi hz h1 h2 rfl (by decide) _ n _ hs (World.ownsRow.alloc hown _) ⟨wr.heap.size, 0, none⟩ 1 1 [.int K y] hx rfl ?_ ?_ (by unfold maxLen; omega) ?_ ?_ ?_
  · intro j u hj
    match j, hj with
    | 0, hj =>
      simp at hj; subst hj
      simp [Addr.add]
  · intro u hu; simp at hu; subst hu; rfl
  · have : (n + 1) * bytes ≤ (n + 1) * 8 := Nat.mul_le_mul_left _ h8
    omega
  · simp; omega
  · intro v' w' hown' hg _
    obtain ⟨a', c', rfl⟩ := own_slice hown'
    refine hK a' (n + 1) c' w' ?_ ?_
    · simpa [Ow, ints] using hown'
    · refine ((Below.refl B wr).alloc hB _).grown hg (by simp; omega) ?_
      intro k hk
      exact (World.ownsRow.lt hown k hk).1
/-- The same at a step of a region that draws its order. -/
theorem step_push {P : Program} (K : IntKind) {W : World} {ops : Array Oper} {o : Oper} {act : Act} {KK : Act → World → Prop} {Q : Exit → Act → World → Prop} {Eo : Prop} (hgd : o.guard = none) (s x : Operand) (t : TypeId)
    (ho : o.op = .call { callee := .builtin .append, args := #[s, x], argTypes := #[t, t] })
    (B : Nat) (E : TypeId) (i : TypeInfo) (bytes : Nat) (ht : P.underlying t = some (.slice E)) (hi : P.info? E = some i) (hz : i.zero = some (.int K 0)) (h1 : i.size = 1) (h2 : i.bytes = bytes) (h8 : bytes ≤ 8)
    (a : Option Addr) (n c : Nat) (xs : List Int) (y : Int) (ad : Addr) (hs : act.eval s = .slice a n c) (hown : Ow K E B W a n c xs) (hx : act.eval x = .slice (some ad) 1 1) (hcell : W.cell? ad = some (.int K y))
    (hn : n ≤ 1000000000) (hB : B ≤ W.heap.size)
    (hK : ∀ a' n' c' w', Ow K E B w' a' n' c' (xs ++ [y]) → Below B W w' → KK (act.put o.dst (.slice a' n' c')) w') :
    if Region.wanted o (yielded ops act.tmps) = true then Oper.wp P o act W KK Q else Eo := by
  have hw : Region.wanted o (yielded ops act.tmps) = true := by simp [Region.wanted, hgd]
  rw [if_pos hw]
  refine wp_append_own _ s x t ho B E i (.int K 0) 1 bytes ht hi hz h1 h2 rfl (by decide) _ n _ hs hown ad 1 1 [.int K y] hx rfl ?_ ?_ (by unfold maxLen; omega) ?_ hB ?_
  · intro j u hj
    match j, hj with
    | 0, hj =>
      simp at hj; subst hj
      simpa [Addr.add] using hcell
  · intro u hu; simp at hu; subst hu; rfl
  · have : (n + 1) * bytes ≤ (n + 1) * 8 := Nat.mul_le_mul_left _ h8
    omega
  · intro v' w' hown' hg _
    obtain ⟨a', c', rfl⟩ := own_slice hown'
    refine hK a' (n + 1) c' w' ?_ ?_
    · simpa [Ow, ints] using hown'
    · exact (Below.refl B W).grown hg hB (fun k hk => (World.ownsRow.lt hown k hk).1)
theorem Ow.empty (K : IntKind) (E B : Nat) (w : World) (hB : B ≤ w.heap.size) : Ow K E B (w.alloc (.cells #[] E)) (some ⟨w.heap.size, 0, none⟩) 0 0 [] :=
  Ow.lit (K := K) (E := E) (xs := []) w hB (by simp)
theorem run_append_none {P : Program} {w : World} (base : Nat) (t ty e : TypeId) (i : TypeInfo) (size : Nat) (ht : P.underlying t = some (.slice e)) (hi : P.info? e = some i)
    (v : Value) (n : Nat) (xs : List Value) (hown : w.ownsRow base e size v n xs) (c : Nat) : (Builtin.append_ #[t, t] ty #[v, .slice none 0 c]).run P w = .ok v w := by
  rcases hown.2 with ⟨rfl, rfl⟩ | ⟨g, cap, cur, rfl, _, _, hnc, _⟩
  · simp [Builtin.append_, run_underlying ht, sizeOf, typeInfo, hi, Builtin.lenOf, Builtin.firstCells]
  · simp [Builtin.append_, run_underlying ht, sizeOf, typeInfo, hi, Builtin.lenOf, Builtin.firstCells, hnc, storeCells]
/-- 'append(out, xs...)': out is owned, xs is read. -/
theorem wpList_appendAll {P : Program} (K : IntKind) (w : World) {ops : Array Oper} {rest : List Oper} {o : Oper} {act : Act} {Q : Exit → Act → World → Prop} (hgd : o.guard = none) (s x : Operand) (t : TypeId)
    (ho : o.op = .call { callee := .builtin .append, args := #[s, x], argTypes := #[t, t] })
    (B : Nat) (E : TypeId) (i : TypeInfo) (bytes : Nat) (ht : P.underlying t = some (.slice E)) (hi : P.info? E = some i) (hz : i.zero = some (.int K 0)) (h1 : i.size = 1) (h2 : i.bytes = bytes) (h8 : bytes ≤ 8)
    (a : Option Addr) (n c : Nat) (xs : List Int) (b : Option Addr) (m d : Nat) (ys : List Int) (hs : act.eval s = .slice a n c) (hown : Ow K E B w a n c xs) (hx : act.eval x = .slice b m d) (hr : Rd K w b m ys)
    (hn : n + m ≤ 1000000000) (hB : B ≤ w.heap.size)
    (hK : ∀ a' n' c' w', Ow K E B w' a' n' c' (xs ++ ys) → Below B w w' → wpList P ops Q rest (act.put o.dst (.slice a' n' c')) w') :
    wpList P ops Q (o :: rest) act w := by
  have hl := hr.len
  rcases b with _ | ad
  · have hm : m = 0 := by
      rcases Nat.eq_zero_or_pos m with h0 | h0
      · exact h0
      · obtain ⟨ad, h, _⟩ := hr.1.2 h0
        cases h
    subst hm
    obtain rfl := List.eq_nil_of_length_eq_zero hl
    refine wpList_plain hgd fun K' hK' => ?_
    have hrun := run_append_none (P := P) B t o.type E i 1 ht hi _ n _ hown d
    unfold Oper.wp execOp
    simp only [ho, resolve, invoke, builtin, Sem.run_bind, Sem.run_pure, Result.andThen_ok, List.map_toArray, List.map_cons, List.map_nil, hs, hx, hrun]
    exact hK' _ _ (hK a n c w (by simpa using hown) (Below.refl _ _))
  · refine wpList_append_own _ hgd s x t ho B E i (.int K 0) 1 bytes ht hi hz h1 h2 rfl (by decide) _ n _ hs hown ad m d (ints K ys) hx (by simp [ints, hl]) ?_ (ints_oneC ys) (by unfold maxLen; omega) ?_ hB ?_
    · intro j u hu
      have hj : j < m := by have := (List.getElem?_eq_some_iff.1 hu).1; simp [ints] at this; omega
      obtain ⟨ad', h, _, hc⟩ := hr.1.2 (by omega)
      injection h with h
      subst h
      exact hc j u hu
    · have : (n + m) * bytes ≤ (n + m) * 8 := Nat.mul_le_mul_left _ h8
      omega
    · intro v' w' hown' hg _
      obtain ⟨a', c', rfl⟩ := own_slice hown'
      refine hK a' (n + m) c' w' ?_ ?_
      · simpa [Ow, ints] using hown'
      · exact (Below.refl B w).grown hg hB (fun k hk => (World.ownsRow.lt hown k hk).1)
theorem fill_set {xs : List Int} {n k : Nat} {x : Int} (hx : xs[k]? = some x) (hn : xs.length = n) :
    (xs.take k ++ List.replicate (n - k) 0).set k x = xs.take (k + 1) ++ List.replicate (n - (k + 1)) 0 := by
  have hk : k < xs.length := (List.getElem?_eq_some_iff.1 hx).1
  have hxe : xs[k] = x := by rw [List.getElem?_eq_getElem hk] at hx; exact Option.some.inj hx
  rw [List.set_append, if_neg (by simp; omega), List.take_succ_eq_append_getElem hk, hxe]
  have e : n - k = (n - (k + 1)) + 1 := by omega
  rw [e, List.replicate_succ]
  have e2 : k - (xs.take k).length = 0 := by simp; omega
  rw [e2]
  simp
theorem fill_get {xs : List Int} {n k : Nat} (hk : k < n) (hn : xs.length = n) : (xs.take k ++ List.replicate (n - k) (0 : Int))[k]? = some 0 := by
  rw [List.getElem?_append_right (by simp; omega)]
  have e2 : k - (xs.take k).length = 0 := by simp; omega
  rw [e2, List.getElem?_replicate, if_pos (by omega)]
theorem fill_all {xs : List Int} {n : Nat} (hn : xs.length = n) : xs.take n ++ List.replicate (n - n) (0 : Int) = xs := by
  simp [← hn]
theorem made_ints (K : IntKind) (n : Nat) : (madeCells (Value.cells (.int K 0)) (n * 1)).toList = ints K (List.replicate n 0) := by
  simpa [ints, Value.cells] using toList_madeCells_one (Value.int K 0) n
/-! ### what comes in -/
theorem fits_wf {K : IntKind} {x : Int} (h : (Lit.int K x).wf = true) : fits K x := by
  cases K <;> simp only [fits] <;> simp [Lit.wf, IntKind.min, IntKind.max, IntKind.signed, IntKind.bits] at h <;> omega
theorem i64_wf {x : Int} (h : (Lit.int .i64 x).wf = true) : -9223372036854775808 ≤ x ∧ x ≤ 9223372036854775807 := fits_wf h
theorem rd_of_row {K : IntKind} {w : World} {a : Option Addr} {len cap : Nat} {zs : List Int}
    (h : (a = none ∧ len = 0 ∧ cap = 0 ∧ zs = []) ∨
      ∃ x, a = some x ∧ len ≤ cap ∧ cap ≤ maxLen ∧ zs.length = cap ∧ (∀ i, i < zs.length → w.cell? (x.add i) = some (.int K (zs.getD i 0))) ∧ ∀ n ∈ zs, (Lit.int K n).wf = true) :
    ∃ xs, Rd K w a len xs := by
  rcases h with ⟨rfl, rfl, rfl, rfl⟩ | ⟨x, rfl, hl, hm, hz, hc, hw⟩
  · exact ⟨[], Rd.nil _ _⟩
  · refine ⟨zs.take len, ⟨by simp [ints]; omega, fun hn => ⟨x, rfl, ?_, ?_⟩⟩, fun y hy => fits_wf (hw y (List.mem_of_mem_take hy))⟩
    · have := World.block_lt_of_cell? w _ (hc 0 (by omega))
      rwa [block_of_add] at this
    · intro j u hu
      have hj : j < len := by
        have := (List.getElem?_eq_some_iff.1 hu).1
        simp [ints] at this
        omega
      have hlt : j < zs.length := by omega
      rw [hc j hlt]
      simp only [ints, List.getElem?_map, List.getElem?_take, if_pos hj, List.getElem?_eq_getElem hlt, Option.map_some] at hu
      rw [← hu, List.getD_eq_getElem?_getD, List.getElem?_eq_getElem hlt]
      rfl
end Go.G8
/-
  Contracts of the helpers of package laws: copies, comparisons and marks of slices of int64.
  Conditions: lengths of at most 2^20; comparisons of equal lists; marks that are read back.
-/
namespace Go.Proofs.Ytnajjofaijpciaa
open Go.RowKit Go.G8
theorem info_int64 : (Try.prog.info? 2).map (fun i => (i.zero, i.size, i.bytes)) = some (some (.int .i64 0), 1, 8) := by kernel_rfl

set_option maxHeartbeats 400000 in
theorem toInt64S_any (a : Option Addr) (n c : Nat) (xs : List Int) (w : World) (h : Rd .i64 w a n xs) (hn : n ≤ 1048576) :
    Calls Try.prog 9 #[.slice a n c] w (RetRow .i64 2 xs w) := by
  obtain ⟨i0, hi, hz0, hz1, hz2⟩ := info_parts info_int64
  have HL := Lib.hid h.len
  go_enter Try.func9, Try.ntmps9
  go_wp2_with (at_make; refine wpList_make_full _ rfl _ _ 22 rfl w.heap.size 2 i0 (.int .i64 0) 1 Try.underlying22 hi hz0 hz1 .i64 .i64 _ _ n rfl rfl rfl rfl (by rw [hz2]; omega) (by unfold maxLen; omega) (Nat.le_refl _) ?_; intro w1 hown1 hg1)
  clear hz0 hz1 hz2
  rw [made_ints] at hown1
  go_loopw [4] (fun i wr => ∃ k : Nat, k ≤ n ∧ i = .int .i64 k ∧ Ow .i64 2 w.heap.size wr (some ⟨w.heap.size, 0, none⟩) n n (xs.take k ++ List.replicate (n - k) 0) ∧ Below w.heap.size w wr) (fun i _ => n - (intOf i).toNat)
  case atStart => exact ⟨0, Nat.zero_le _, rfl, by simpa [Ow] using hown1, (Below.refl _ _).grown hg1 (Nat.le_refl _) (by simp)⟩
  case round =>
    clear hown1 hg1
    obtain ⟨k, hk, rfl, hown, hbel⟩ := hrel
    by_cases hlt : k < n
    · obtain ⟨b, o, x, rfl, hb, hc, hx, hx1, hx2⟩ := (h.to hbel).at_ hlt
      have hold := hown.cell (fill_get hlt HL.out)
      have hfr := hown.free k
      go_wp2
      go_roundw
      case rel => exact ⟨k + 1, by omega, by go_num, by have := hown.set_ k x; rwa [fill_set hx.out HL.out] at this, hbel.setCell (Nat.le_refl _) _⟩
      case measure => simp [intOf]; omega
    · go_wp2
      go_ret
      obtain rfl : k = n := by omega
      exact ⟨_, _, _, rfl, by rwa [fill_all HL.out] at hown, hbel⟩

/-- Two slices that read as one list are equal. -/
theorem eqInt64S_same (a b : Option Addr) (n m c d : Nat) (xs : List Int) (w : World) (ha : Rd .i64 w a n xs) (hb : Rd .i64 w b m xs) (hn : n ≤ 1000000000) :
    Calls Try.prog 12 #[.slice a n c, .slice b m d] w (RetQ (.bool true) w) := by
  obtain rfl : n = m := by rw [← ha.len, hb.len]
  have hne : ((n : Int) != (n : Int)) = false := by simp
  go_enter Try.func12, Try.ntmps12
  go_wp2
  go_loopw [5] (fun i wr => ∃ k j : Nat, k ≤ n ∧ i = .int .i64 k ∧ wr = w.drewN j) (fun i _ => n - (intOf i).toNat)
  case atStart => exact ⟨0, 0, Nat.zero_le _, rfl, rfl⟩
  case round =>
    obtain ⟨k, j, hk, rfl, rfl⟩ := hrel
    by_cases hlt : k < n
    · obtain ⟨b1, o1, x, rfl, -, hc1, hx, hx1, hx2⟩ := ha.at_ hlt
      obtain ⟨b2, o2, y, rfl, -, hc2, hy, -, -⟩ := hb.at_ hlt
      obtain rfl : x = y := by have h1 := hx.out; rw [hy.out] at h1; exact (Option.some.inj h1).symm
      have hxx : (x != x) = false := by simp
      have hl1 : (0 : Int) ≤ (k : Int) := by omega
      have hl2 : (k : Int) < (n : Int) := by omega
      go_wp2
      go_quiet (fail)
      go_wp2
      go_roundw
      case rel => exact ⟨k + 1, _, by omega, by go_num, rfl⟩
      case measure => simp [intOf]; omega
    · go_wp2
      go_ret
      exact ⟨rfl, j, rfl⟩

/-- k, k + 1, .. : n numbers. -/
def seqI (k : Int) (n : Nat) : List Int := (List.range n).map (fun j : Nat => k + (j : Int))
theorem seqI_get (k : Int) (n j : Nat) (h : j < n) : (seqI k n)[j]? = some (k + j) := by simp [seqI, h]
theorem seqI_length (k : Int) (n : Nat) : (seqI k n).length = n := by simp [seqI]
theorem seqI_fits (k : Int) (n : Nat) (h0 : 0 ≤ k) (h1 : k + n ≤ 9223372036854775807) : ∀ x ∈ seqI k n, fits .i64 x := by
  intro x hx
  simp only [seqI, List.mem_map, List.mem_range] at hx
  obtain ⟨j, hj, rfl⟩ := hx
  show -9223372036854775808 ≤ _ ∧ _ ≤ _
  omega
/-- The row in the middle of its marking: j marks, the rest as it was. -/
theorem mark_set (xs : List Int) (k : Int) (j : Nat) (h : j < xs.length) : (seqI k j ++ xs.drop j).set j (k + j) = seqI k (j + 1) ++ xs.drop (j + 1) := by
  have e : seqI k (j + 1) = seqI k j ++ [k + (j : Int)] := by simp [seqI, List.range_succ]
  rw [List.set_append, if_neg (by simp [seqI_length]), seqI_length, Nat.sub_self, List.drop_eq_getElem_cons h, e, List.append_assoc]
  rfl

set_option maxHeartbeats 400000 in
/-- Marks are written over a row of one's own. -/
theorem markInt64S_any {E : TypeId} (B : Nat) (a : Option Addr) (n c : Nat) (xs : List Int) (k : Int) (w : World) (ho : Ow .i64 E B w a n c xs) (hn : n ≤ 1000000000) (h0 : 0 ≤ k) (h1 : k ≤ 1000000000000) :
    Calls Try.prog 17 #[.slice a n c, .int .i64 k] w fun e w' => e = .returned (.int .i64 (k + n)) ∧ Ow .i64 E B w' a n c (seqI k n) ∧ w.grownBy w' (blk a) := by
  have HL := Lib.hid ho.len
  go_enter Try.func17, Try.ntmps17
  go_wp2
  go_loopw [1, 5] (fun v i wr => ∃ j : Nat, j ≤ n ∧ i = .int .i64 j ∧ v = .int .i64 (k + j) ∧ Ow .i64 E B wr a n c (seqI k j ++ xs.drop j) ∧ w.grownBy wr (blk a)) (fun _ i _ => n - (intOf i).toNat)
  case atStart => exact ⟨0, Nat.zero_le _, rfl, by simp, by simpa [seqI] using ho, World.grownBy.refl _ _⟩
  case round =>
    obtain ⟨j, hj, rfl, rfl, hown, hg⟩ := hrel
    by_cases hlt : j < n
    · obtain ⟨g, rfl, -, hgs⟩ := hown.form (by omega)
      have hl : j < xs.length := by rw [HL.out]; exact hlt
      obtain ⟨x, hx⟩ : ∃ x, xs[j]? = some x := ⟨_, List.getElem?_eq_getElem hl⟩
      have hold := hown.cell (k := j) (x := x) (by rw [List.getElem?_append_right (by simp [seqI_length]), seqI_length]; simpa using hx)
      have Hx := Lib.hid hx
      clear hx
      have hfr := hown.free j
      go_wp2
      go_roundw
      case rel => exact ⟨j + 1, by omega, by go_num, by go_num, by have := hown.set_ j (k + j); rwa [mark_set xs k j hl] at this, ⟨hg.os, hg.tape, hg.output, by simpa using hg.size, fun q hq hne => (Below.heap_setCell _ _ _ _ (fun e => hne (by rw [e]; rfl))).trans (hg.block q hq hne)⟩⟩
      case measure => simp [intOf]; omega
    · obtain rfl : j = n := by omega
      go_wp2
      go_ret
      exact ⟨rfl, by rwa [List.drop_eq_nil_of_le (by rw [HL.out]; exact Nat.le_refl _), List.append_nil] at hown, hg⟩

theorem big_any (a : Option Addr) (n c : Nat) (w : World) : Calls Try.prog 25 #[.slice a n c] w (RetS (.bool (decide (4096 < (n : Int)))) w) := by
  go_enter Try.func25, Try.ntmps25
  go_wp2
  go_ret
  exact ⟨rfl, rfl⟩
end Go.Proofs.Ytnajjofaijpciaa
