/-
  Contracts: the texts of a list of parts, by the reference.
  Conditions: lists of at most 2^20 parts.
-/
import Derived.Test.YtnajjofaijpciaaDoorTexts
import Derived.Deep.RegionLaw
set_option linter.unusedVariables false
namespace Go.Proofs.YtnajjofaijpciaaDoor
open Go.RowKit Go.G8
def okP (p : PartV) : Bool := isPart p.ix p.ct p.pr p.tx
def likeP (h p : PartV) : Bool := decide (p.ct = h.ct) && decide (p.pr = h.pr)
def hdP (l : List PartV) : PartV := l.headD ⟨0, 0, 0, ⟨#[]⟩⟩
def codeP (l : List PartV) : Int :=
  if ¬ (1 ≤ l.length ∧ l.length ≤ 8) then 3 else if l.all okP = false then 1 else if l.all (likeP (hdP l)) = false then 5 else 0
/-- The texts of the parts with an index. -/
def textsP (l : List PartV) (k : Nat) : List ByteArray := (l.filter (fun p => decide (p.ix = (k : Int)))).map (·.tx)
theorem textsP_snoc (l : List PartV) (p : PartV) (k : Nat) : textsP (l ++ [p]) k = textsP l k ++ (if p.ix = (k : Int) then [p.tx] else []) := by
  unfold textsP
  rw [List.filter_append, List.map_append]
  congr 1
  by_cases h : p.ix = (k : Int) <;> simp [h]
theorem mid_get {α : Type} (A B : List α) (f f' : α) {i : Nat} (h : i ≠ A.length) : (A ++ f' :: B)[i]? = (A ++ f :: B)[i]? := by
  by_cases h1 : i < A.length
  · rw [List.getElem?_append_left h1, List.getElem?_append_left h1]
  · rw [List.getElem?_append_right (by omega), List.getElem?_append_right (by omega)]
    obtain ⟨m, e⟩ : ∃ m, i - A.length = m + 1 := ⟨i - A.length - 1, by omega⟩
    rw [e]; rfl
theorem okP_bd {p : PartV} (h : okP p = true) : (1 ≤ p.ct ∧ p.ct ≤ 8) ∧ (0 ≤ p.ix ∧ p.ix ≤ p.ct - 1) ∧ (0 ≤ p.pr ∧ p.pr ≤ 255) ∧ p.tx.size ≤ 400 := by
  unfold okP isPart at h
  simp only [Bool.and_eq_true, decide_eq_true_eq] at h
  exact ⟨h.1.1.1, h.1.1.2, h.1.2, h.2⟩
theorem all_take_bad {α : Type} {f : α → Bool} {l : List α} {k : Nat} {x : α} (h : l[k]? = some x) (hx : f x = false) : l.all f = false := by
  cases e : l.all f with
  | false => rfl
  | true => rw [List.all_eq_true.1 e x (List.mem_of_getElem? h)] at hx; exact absurd hx (by decide)
theorem all_take_step {α : Type} {f : α → Bool} {l : List α} {k : Nat} {x : α} (h : l[k]? = some x) (h0 : (l.take k).all f = true) (hx : f x = true) : (l.take (k + 1)).all f = true := by
  rw [List.take_add_one, h, List.all_append, h0]
  simp [hx]
def RetTexts (l : List PartV) (w : World) (e : Ending) (w' : World) : Prop :=
  Below w.heap.size w w' ∧ (if codeP l = 0 then ∃ (g m : Nat) (ts : List TF), e = .returned (.tuple #[.slice (some ⟨g, 0, none⟩) m m, .int .i64 0]) ∧ (m : Int) = (hdP l).ct ∧ TAt w.heap.size w' (some ⟨g, 0, none⟩) m ts ∧ ts.length = m ∧ (∀ i f, ts[i]? = some f → f.xs = textsP l i) else e = .returned (.tuple #[.slice none 0 0, .int .i64 (codeP l)]))
theorem info_strs : (Tryd.prog.info? 36).map (fun i => (i.zero, i.size, i.bytes)) = some (some (.slice none 0 0), 1, 24) := by kernel_rfl
theorem info_str : (Tryd.prog.info? 9).map (fun i => (i.zero, i.size, i.bytes)) = some (some (.string ⟨#[]⟩), 1, 16) := by kernel_rfl
theorem textsP_len (l : List PartV) (k : Nat) : (textsP l k).length ≤ l.length := by
  unfold textsP
  rw [List.length_map]
  exact List.length_filter_le _ _
theorem farT {W w3 : World} {A : Array Value} {T : TypeId} {row : Option Nat} {b i : Nat} {v : Value} (hg : (W.drew.alloc (.cells A T)).grownBy w3 row) (hlt : b < W.heap.size) (hne : some b ≠ row) (hc : W.cell? ⟨b, i, none⟩ = some v) (hz : W.frozen? ⟨b, i, none⟩ = false) : w3.cell? ⟨b, i, none⟩ = some v ∧ w3.frozen? ⟨b, i, none⟩ = false := by
  have hb : Below W.heap.size W (W.drew.alloc (.cells A T)) := ((Below.refl W.heap.size W).drew).alloc (Nat.le_refl _) _
  have hs := hb.size
  have h := hg.block b (by omega) hne
  exact ⟨(World.cell?_of_block (a := ⟨b, i, none⟩) h).trans (((bcell hb).1 b i hlt).trans hc), (World.frozen?_of_block (a := ⟨b, i, none⟩) h).trans (((bcell hb).2 b i hlt).trans hz)⟩
/-- The round's end: one text more in the list of its index. -/
theorem texts_round {D B g m kk k : Nat} {w W2 w3 : World} {l : List PartV} {q : PartV} {ts : List TF} {g' cap : Nat} {f : TF} {T : TypeId} (hB : Below D w W2) (hD : D ≤ w.heap.size) (hT : TAt D W2 (some ⟨g, 0, none⟩) m ts) (hf : ts[kk]? = some f) (hx : ∀ i f, ts[i]? = some f → f.xs = textsP (l.take k) i) (hq : l[k]? = some q) (hix : q.ix = (kk : Int)) (hDg : D ≤ g) (hTy : T = 9)
    (r1 : w3.ownsRow D 9 1 (.slice (some ⟨g', 0, none⟩) (f.n + 1) cap) (f.n + 1) (f.xs.map Value.string ++ [.string q.tx])) (r2 : (W2.drew.alloc (.cells #[.string q.tx] T)).grownBy w3 (Value.slice f.a f.n f.c).ownBlock) (r3 : (Value.slice f.a f.n f.c).ownBlock = some g' ∨ g' = W2.heap.size + 1) :
    ∃ ts', TAt D (w3.setCell ⟨g, kk, none⟩ (.slice (some ⟨g', 0, none⟩) (f.n + 1) cap)) (some ⟨g, 0, none⟩) m ts' ∧ ts'.length = ts.length ∧ (∀ i f, ts'[i]? = some f → f.xs = textsP (l.take (k + 1)) i) ∧ Below D w (w3.setCell ⟨g, kk, none⟩ (.slice (some ⟨g', 0, none⟩) (f.n + 1) cap)) := by
  subst hTy
  have hkl : kk < ts.length := (List.getElem?_eq_some_iff.1 hf).1
  have hdr : Below W2.heap.size W2 W2.drew := (Below.refl _ _).drew
  obtain ⟨A, C, rfl, rfl⟩ : ∃ A C, ts = A ++ f :: C ∧ A.length = kk := by
    have e := (List.getElem?_eq_some_iff.1 hf).2
    exact ⟨ts.take kk, ts.drop (kk + 1), by conv => lhs; rw [← List.take_append_drop kk ts, List.drop_eq_getElem_cons hkl, e], by rw [List.length_take]; omega⟩
  rw [ownBlock_slice] at r2 r3
  have ho : TRow D w3 ⟨some ⟨g', 0, none⟩, f.n + 1, cap, f.xs ++ [q.tx]⟩ := by
    show OwV _ _ _ _ _ _ _ ((f.xs ++ [q.tx]).map Value.string)
    rw [List.map_append]
    exact r1
  have hT3 := tAt_push (f' := ⟨some ⟨g', 0, none⟩, f.n + 1, cap, f.xs ++ [q.tx]⟩) (w := W2.drew) (tAt_keep hT hdr) hDg ho rfl r2 (by
    rcases r3 with e | e
    · exact .inl e.symm
    · exact .inr (by show some g' = _; rw [e]; rfl))
  refine ⟨_, hT3, by simp, fun i f' hf' => ?_, ?_⟩
  · rw [List.take_add_one, hq]
    show _ = textsP (_ ++ [q]) i
    rw [textsP_snoc]
    by_cases hi : i = A.length
    · subst hi
      rw [if_pos hix]
      have : f' = ⟨some ⟨g', 0, none⟩, f.n + 1, cap, f.xs ++ [q.tx]⟩ := by
        rw [List.getElem?_append_right (Nat.le_refl _), Nat.sub_self] at hf'
        simpa using hf'.symm
      rw [this, ← hx _ f hf]
    · rw [if_neg (by omega), List.append_nil]
      rw [mid_get A C f _ hi] at hf'
      exact hx i f' hf'
  · have hbA : Below W2.heap.size W2 (W2.drew.alloc (.cells #[.string q.tx] 9)) := hdr.alloc (Nat.le_refl _) _
    have hs2 := hB.size
    have hsA := hbA.size
    refine Below.setCell (((hB.trans (hbA.mono (by omega))).grown r2 (by omega) (fun x e => ?_))) hDg _
    exact (OwV.lt (hT.2.1 f (List.mem_append.2 (.inr List.mem_cons_self))).1 x e).1
set_option maxHeartbeats 2000000 in
set_option maxRecDepth 20000 in
theorem l12Parts_any (a : Option Addr) (n c : Nat) (l : List PartV) (w : World) (h : RdP w a n l) (hn : n ≤ 1048576) (hl : ∀ p ∈ l, partFits p ∧ p.tx.size ≤ 1048576) :
    Calls Tryd.prog 10 #[.slice a n c] w (RetTexts l w) := by
  have hlen := h.len
  by_cases hr : 1 ≤ n ∧ n ≤ 8
  · obtain ⟨i0, hi, hz0, hz1, hz2⟩ := info_parts info_strs
    obtain ⟨i1, hJ, hy0, hy1, hy2⟩ := info_parts info_str
    have H := Lib.hid (fun W (hb : Below w.heap.size w W) => h.to hb)
    have hn1 : ¬ ¬ (1 ≤ l.length ∧ l.length ≤ 8) := by rw [hlen]; exact fun e => e hr
    clear h
    go_enter Tryd.func10, Tryd.ntmps10
    go_wp2_with fail
    refine (l01In_yes _ _ _ _ (by omega)).mono ?_
    rintro e w' ⟨rfl, rfl⟩
    go_wp2_with fail
    go_loopw [4] (fun i wr => ∃ j : Nat, j ≤ n ∧ i = .int .i64 (j : Int) ∧ Hid ((l.take j).all okP = true) ∧ Below w.heap.size w wr) (fun i _ => n - (intOf i).toNat)
    case atStart => exact ⟨0, by omega, rfl, Lib.hid (by simp), Below.refl _ _⟩
    case round =>
      obtain ⟨j, hj, rfl, hall, hB⟩ := hrel
      by_cases hlt : j < n
      · have hq : l[j]? = some (l[j]'(by omega)) := List.getElem?_eq_getElem _
        have hfit := hl _ (List.mem_of_getElem? hq)
        generalize l[j]'(by omega) = q at *
        obtain ⟨b, o, rfl, hlb, c0, c1, c2, c3⟩ := (H.out wr hB).at_ hq
        obtain ⟨⟨f1, f2, f3, f4⟩, f5⟩ := hfit
        have hl1 : (0 : Int) ≤ (j : Int) := by omega
        have hl2 : (j : Int) < (n : Int) := by omega
        have HP := specIsPart_any q.ix q.ct q.pr q.tx wr f1 f2 f3 (by omega)
        cases hok : okP q with
        | true =>
          have hok' : isPart q.ix q.ct q.pr q.tx = true := hok
          rw [hok'] at HP
          have hall2 := Lib.hid (all_take_step hq hall.out hok)
          go_wp2_with fail
          refine HP.mono ?_
          rintro e w1 ⟨rfl, hb1⟩
          go_wp2_with fail
          go_roundw
          case rel => exact ⟨j + 1, by omega, by go_num, hall2, bt hB hb1⟩
          case measure => simp [intOf]; omega
        | false =>
          have hok' : isPart q.ix q.ct q.pr q.tx = false := hok
          rw [hok'] at HP
          have hcode : codeP l = 1 := by
            unfold codeP
            rw [if_neg hn1, if_pos (all_take_bad hq hok)]
          go_wp2_with fail
          refine HP.mono ?_
          rintro e w1 ⟨rfl, hb1⟩
          go_wp2_with fail
          exact bodyPost_ret (v := .tuple #[.slice none 0 0, .int .i64 1]) (by simp [results, Tryd.results10, go_sem]) rfl ⟨bt hB hb1, by rw [if_neg (by rw [hcode]; decide), hcode]⟩
      · obtain rfl : j = n := by omega
        have hallo := hall.out
        rw [List.take_of_length_le (by omega)] at hallo
        have HA := Lib.hid hallo
        clear hallo hall
        have hq0 : l[0]? = some (hdP l) := by
          cases l with
          | nil => simp at hlen; omega
          | cons p l => rfl
        have hbd := okP_bd (List.all_eq_true.1 HA.out _ (List.mem_of_getElem? hq0))
        generalize hhd : hdP l = hd at *
        obtain ⟨b, o, rfl, hlb, c0, c1, c2, c3⟩ := (H.out wr hB).at_ hq0
        obtain ⟨m, hm⟩ : ∃ m : Nat, (m : Int) = hd.ct := ⟨hd.ct.toNat, by omega⟩
        simp only [Nat.zero_mul, Nat.add_zero] at c0 c1 c2 c3
        have hl1 : (0 : Int) < (j : Int) := by omega
        go_wp2_with (at_make; refine wpList_make_full _ rfl _ _ 33 rfl w.heap.size 36 i0 (.slice none 0 0) 1 Tryd.underlying33 hi hz0 hz1 .i64 .i64 _ _ m rfl rfl hm.symm hm.symm (by rw [hz2]; omega) (by unfold maxLen; omega) (by have := hB.size; omega) ?_; intro w1 hown1 hg1)
        have hg0 : w.heap.size ≤ wr.heap.size := hB.size
        have hB1 := hB.grown hg1 hg0 (by simp)
        have hown0 : OwV 36 1 w.heap.size w1 (some ⟨wr.heap.size, 0, none⟩) m m (List.replicate m (.slice none 0 0)) := by
          have h2 := hown1
          rw [Nat.mul_one, show (Value.cells (.slice none 0 0)) = #[Value.slice none 0 0] from rfl, toList_madeCells_one] at h2
          exact h2
        have HT0 := Lib.hid (tAt_made hown0)
        clear hz0 hz1 hz2 hown1 hown0 hg1 hB c0 c1 c2 c3
        generalize hgr : wr.heap.size = g at *
        go_loopw [6] (fun i wr => ∃ (k : Nat) (ts : List TF), k ≤ j ∧ i = .int .i64 (k : Int) ∧ TAt w.heap.size wr (some ⟨g, 0, none⟩) m ts ∧ ts.length = m ∧ Hid (∀ i f, ts[i]? = some f → f.xs = textsP (l.take k) i) ∧ Hid ((l.take k).all (likeP hd) = true) ∧ Below w.heap.size w wr) (fun i _ => j - (intOf i).toNat)
        case atStart => exact ⟨0, List.replicate m zT, by omega, rfl, HT0.out, by simp, Lib.hid (fun i f hf => by rw [List.eq_of_mem_replicate (List.mem_of_getElem? hf)]; rfl), Lib.hid (by simp), hB1⟩
        case round =>
          clear HT0 hB1
          obtain ⟨k, ts, hk, rfl, hT, htl, hx, hlk, hB⟩ := hrel
          by_cases hlt2 : k < j
          · have hq : l[k]? = some (l[k]'(by omega)) := List.getElem?_eq_getElem _
            have hqd := okP_bd (List.all_eq_true.1 HA.out _ (List.mem_of_getElem? hq))
            have htk : l.take (k + 1) = l.take k ++ [l[k]'(by omega)] := by rw [List.take_add_one, hq]; rfl
            generalize l[k]'(by omega) = q at *
            obtain ⟨b', o', e', hlb', c0, c1, c2, c3⟩ := (H.out wr hB).at_ hq
            injection e' with e'; injection e' with e1 e2; subst e1 e2
            obtain ⟨b', o', e', -, p0, p1, p2, p3⟩ := (H.out wr hB).at_ hq0
            injection e' with e'; injection e' with e1 e2; subst e1 e2
            simp only [Nat.zero_mul, Nat.add_zero] at p0 p1 p2 p3
            have hl1 : (0 : Int) ≤ (k : Int) := by omega
            have hl2 : (k : Int) < (j : Int) := by omega
            have hl3 : (0 : Int) < (j : Int) := by omega
            by_cases hct : q.ct = hd.ct
            · have hb1 : (q.ct != hd.ct) = false := by simp [hct]
              by_cases hpr : q.pr = hd.pr
              · have hb2 : (q.pr != hd.pr) = false := by simp [hpr]
                obtain ⟨kk, hkk⟩ : ∃ kk : Nat, q.ix = (kk : Int) := ⟨q.ix.toNat, by omega⟩
                have hkm : kk < m := by omega
                have hf : ts[kk]? = some (ts[kk]'(by omega)) := List.getElem?_eq_getElem _
                generalize ts[kk]'(by omega) = f at hf
                have hlk2 := Lib.hid (all_take_step hq hlk.out (show likeP hd q = true by unfold likeP; simp [hct, hpr]))
                rw [hkk] at c0
                have hk1 : (0 : Int) ≤ (kk : Int) := by omega
                have hk2 : (kk : Int) < hd.ct := by omega
                go_wp2_with fail
                go_quiet (first | fail)
                go_wp2_with fail
                generalize hW2 : wr.drewN nq = W2
                have hbd2 : Below wr.heap.size wr W2 := by rw [← hW2]; exact below_drewN (Below.refl _ _) nq
                have hT2 := tAt_keep hT hbd2
                have hB2 := hB.trans (hbd2.mono hB.size)
                have t3 : W2.cell? ⟨b, o + k * 4 + 3, none⟩ = some (.string q.tx) := ((bcell hbd2).1 b _ (by omega)).trans c3
                have tg := tAt_cell hT2 hf
                have tz := hT2.1.free kk
                have hglt : g < W2.heap.size := (hT2.1.lt g rfl).2
                have hrow := hT2.2.1 f (List.mem_of_getElem? hf)
                have hfl : f.n ≤ 8 := by
                  have e1 := (TRow.len hrow.1).symm
                  have e2 := congrArg List.length (hx.out _ f hf)
                  have e3 := textsP_len (l.take k) kk
                  rw [List.length_take] at e3
                  omega
                have hne : some g ≠ (Value.slice f.a f.n f.c).ownBlock := fun e => by
                  rw [ownBlock_slice] at e
                  exact hrow.2 g e.symm rfl
                have nw1 := World.new_ne W2 ⟨g, kk, none⟩ tg
                have nw2 := World.new_ne W2 ⟨b, o + k * 4 + 3, none⟩ t3
                have HOW := Lib.hid (fun W (hW : Below W2.heap.size W2 W) => OwV.keep hrow.1 hW)
                have HM := Lib.hid (fun (w3 : World) (A : Array Value) (T : TypeId) (hg : (W2.drew.alloc (.cells A T)).grownBy w3 (Value.slice f.a f.n f.c).ownBlock) => farT hg hglt hne tg tz)
                have HD := Lib.hid hB2.size
                have HFIN := Lib.hid (fun (w3 : World) (g' cap : Nat) r1 r2 r3 => texts_round (w := w) (w3 := w3) (g' := g') (cap := cap) (B := 0) (T := 9) hB2 (Nat.le_refl _) hT2 hf hx.out hq hkk hg0 rfl r1 r2 r3)
                clear hT hT2 hrow hx hlk c0 c1 c2 c3 p0 p1 p2 p3 hbd2 hW2 hB hB2
                go_region_law ((refine step_append_lies _ (by rfl) _ _ _ (by rfl) w.heap.size 9 i1 _ 1 16 Tryd.underlying36 hJ hy0 hy1 hy2 (by rfl) (by decide) (.slice f.a f.n f.c) f.n (f.xs.map Value.string) (by rfl) (World.ownsRow.alloc (HOW.out W2.drew ((Below.refl _ _).drew)) _) ⟨W2.heap.size, 0, none⟩ 1 1 [.string q.tx] (by rfl) (by rfl) (World.news_of_block (heap_alloc_new W2.drew _)) (by simp [Value.oneCell']) (by decide) (by unfold maxLen; omega) (by omega) (by have := HD.out; simp; omega) (W2.heap.size + 1) (by simp) ?_; intro g' cap w3 r1 r2 r3 r4; obtain ⟨m1, m2⟩ := HM.out _ _ _ r2))
                all_goals
                  obtain ⟨ts', x1, x2, x3, x4⟩ := HFIN.out w3 g' cap r1 r2 r3
                  clear r1 r2 r3 r4 m1 m2 HFIN HM HOW t3 tg tz
                  go_wp2_with fail
                  go_roundw
                  case rel => exact ⟨k + 1, ts', by omega, by go_num, x1, x2.trans htl, x3, hlk2, x4⟩
                  case measure => simp [intOf]; omega
              · have hb2 : (q.pr != hd.pr) = true := by simp [hpr]
                have hcode : codeP l = 5 := by
                  unfold codeP
                  rw [if_neg hn1, if_neg (by rw [HA.out]; decide), hhd, if_pos (all_take_bad hq (by unfold likeP; simp [hpr]))]
                go_wp2_with fail
                go_quiet (first | fail)
                go_wp2_with fail
                exact bodyPost_ret (v := .tuple #[.slice none 0 0, .int .i64 5]) (by simp [results, Tryd.results10, go_sem]) rfl ⟨below_drewN hB _, by rw [if_neg (by rw [hcode]; decide), hcode]⟩
            · have hb1 : (q.ct != hd.ct) = true := by simp [hct]
              have hcode : codeP l = 5 := by
                unfold codeP
                rw [if_neg hn1, if_neg (by rw [HA.out]; decide), hhd, if_pos (all_take_bad hq (by unfold likeP; simp [hct]))]
              go_wp2_with fail
              go_quiet (first | fail)
              go_wp2_with fail
              exact bodyPost_ret (v := .tuple #[.slice none 0 0, .int .i64 5]) (by simp [results, Tryd.results10, go_sem]) rfl ⟨below_drewN hB _, by rw [if_neg (by rw [hcode]; decide), hcode]⟩
          · obtain rfl : k = j := by omega
            have hlko := hlk.out
            have hxo := hx.out
            rw [List.take_of_length_le (by omega)] at hlko hxo
            have hcode : codeP l = 0 := by
              unfold codeP
              rw [if_neg hn1, if_neg (by rw [HA.out]; decide), hhd, if_neg (by rw [hlko]; decide)]
            go_wp2_with fail
            go_wp2_with fail
            exact bodyPost_ret (v := .tuple #[.slice (some ⟨g, 0, none⟩) m m, .int .i64 0]) (by simp [results, Tryd.results10, go_sem]) rfl ⟨hB, by rw [if_pos hcode]; exact ⟨g, m, ts, rfl, by rw [hhd]; exact hm, hT, htl, hxo⟩⟩
  · have hcode : codeP l = 3 := by unfold codeP; rw [if_pos (by rw [hlen]; exact hr)]
    go_enter Tryd.func10, Tryd.ntmps10
    go_wp2_with fail
    refine (l01In_no _ _ _ _ (by omega)).mono ?_
    rintro e w' ⟨rfl, rfl⟩
    go_wp2_with fail
    exact bodyPost_ret (v := .tuple #[.slice none 0 0, .int .i64 3]) (by simp [results, Tryd.results10, go_sem]) rfl ⟨Below.refl _ _, by rw [if_neg (by rw [hcode]; decide), hcode]⟩
end Go.Proofs.YtnajjofaijpciaaDoor
