/-
  Contracts: the missing parts, by the reference and by the program.
  Conditions: lists of at most 2^20 parts.
-/
import Derived.Test.YtckmenjbblgiiaaPartE
import Derived.Test.YtckmenjbblgiiaaLib
set_option linter.unusedVariables false
namespace Go.Proofs.Ytckmenjbblgiiaa
open Go.RowKit Go.G8
/-- The first k indices for which there is no part. -/
def misK (l : List PartV) (k : Nat) : List Int := ((List.range k).filter (fun i => (textsP l i).isEmpty)).map (fun i : Nat => (i : Int))
theorem misK_step (l : List PartV) (k : Nat) : misK l (k + 1) = misK l k ++ (if (textsP l k).isEmpty then [(k : Int)] else []) := by
  unfold misK
  rw [List.range_succ, List.filter_append, List.map_append]
  congr 1
  by_cases h : (textsP l k).isEmpty = true
  · rw [if_pos h]; simp [h]
  · rw [if_neg h]; simp [h]
theorem misK_len (l : List PartV) (k : Nat) : (misK l k).length ≤ k := by
  unfold misK
  rw [List.length_map]
  have := List.length_filter_le (fun i => (textsP l i).isEmpty) (List.range k)
  rwa [List.length_range] at this
def missP (l : List PartV) : List Int := if codeP l = 0 then misK l (hdP l).ct.toNat else []
def RetMiss (l : List PartV) (w : World) (e : Ending) (w' : World) : Prop :=
  Below w.heap.size w w' ∧ ∃ a n c, e = .returned (.tuple #[.slice a n c, .int .i64 (codeP l)]) ∧ Ow .i64 2 w.heap.size w' a n c (missP l)
theorem codeP_bd {l : List PartV} (h : codeP l = 0) : (1 ≤ l.length ∧ l.length ≤ 8) ∧ l.all okP = true ∧ l.all (likeP (hdP l)) = true := by
  unfold codeP at h
  split at h
  · exact absurd h (by decide)
  · split at h
    · exact absurd h (by decide)
    · split at h
      · exact absurd h (by decide)
      · rename_i h1 h2 h3
        exact ⟨Classical.not_not.1 h1, by simpa using h2, by simpa using h3⟩
set_option maxHeartbeats 2000000 in
set_option maxRecDepth 20000 in
theorem specMissing_any (a : Option Addr) (n c : Nat) (l : List PartV) (w : World) (h : RdP w a n l) (hn : n ≤ 1048576) (hl : ∀ p ∈ l, partFits p ∧ p.tx.size ≤ 1048576) :
    Calls Try.prog 50 #[.slice a n c] w (RetMiss l w) := by
  obtain ⟨i0, hi, hz0, hz1, hz2⟩ := info_parts info_int64
  go_enter Try.func50, Try.ntmps50
  go_wp2_with fail
  refine (l12Parts_any a n c l w h hn hl).mono ?_
  by_cases hc : codeP l = 0
  · rintro e w1 ⟨hb1, hres⟩
    rw [if_pos hc] at hres
    obtain ⟨g, m, ts, rfl, hm, hT, htl, hx⟩ := hres
    have hbd := codeP_bd hc
    have hm1 : m = (hdP l).ct.toNat := by omega
    have hm8 : m ≤ 8 := by
      have h1 := (codeP_bd hc)
      have h2 : hdP l ∈ l := by
        cases l with
        | nil => simp at h1
        | cons p l => exact List.mem_cons_self
      have := (okP_bd (List.all_eq_true.1 h1.2.1 _ h2)).1
      omega
    have HR := Lib.hid (show missP l = misK l m by unfold missP; rw [if_pos hc, hm1])
    have hO := Ow.empty .i64 2 w1.heap.size w1 (Nat.le_refl _)
    have hal := Below.alloc (Below.refl w1.heap.size w1) (Nat.le_refl _) (.cells #[] 2)
    have HT := Lib.hid (fun W (hb : Below w1.heap.size w1 W) => tAt_keep hT hb)
    have HX := Lib.hid hx
    have hc0 : codeP l = 0 := hc
    clear hm hm1 hT hx hc
    go_wp2_with fail
    go_loopw [6, 7] (fun o i wr => ∃ (a' : Option Addr) (n' c' k : Nat), k ≤ m ∧ n' ≤ k ∧ i = .int .i64 (k : Int) ∧ o = .slice a' n' c' ∧ Ow .i64 2 w1.heap.size wr a' n' c' (misK l k) ∧ Below w1.heap.size w1 wr) (fun _ i _ => m - (intOf i).toNat)
    case atStart => exact ⟨_, 0, 0, 0, by omega, by omega, rfl, rfl, hO, hal⟩
    case round =>
      clear hO hal
      obtain ⟨a', n', c', k, hk, hn', rfl, rfl, hown, hB⟩ := hrel
      by_cases hlt : k < m
      · have hf : ts[k]? = some (ts[k]'(by omega)) := List.getElem?_eq_getElem _
        generalize ts[k]'(by omega) = f at hf
        have hT := HT.out wr hB
        have cg := tAt_cell hT hf
        have hfl := TRow.len (hT.2.1 f (List.mem_of_getElem? hf)).1
        rw [HX.out k f hf] at hfl
        have hst := misK_step l k
        have hk1 : (0 : Int) ≤ (k : Int) := by omega
        have hk2 : (k : Int) < (m : Int) := by omega
        by_cases hz : f.n = 0
        · rw [hz] at cg
          rw [if_pos (by rw [List.isEmpty_iff]; exact List.eq_nil_of_length_eq_zero (by omega))] at hst
          have HS := Lib.hid hst
          clear hst hT
          go_wp2_with (at_builtin; refine wpList_push .i64 _ rfl _ _ 25 rfl w1.heap.size 2 _ i0 8 Try.underlying25 hi hz0 hz1 hz2 (by omega) a' n' c' (misK l k) _ rfl hown rfl (by omega) (by have := hB.size; omega) ?_; intro a3 n3 c3 w3 hown3 hbel3)
          rw [← HS.out] at hown3
          have hn3 := hown3.len
          have hn4 := misK_len l (k + 1)
          go_roundw
          case rel => exact ⟨a3, n3, c3, k + 1, by omega, by omega, by go_num, rfl, hown3, hB.trans hbel3⟩
          case measure => simp [intOf]; omega
        · have hz2' : ((f.n : Int) == 0) = false := by simp [hz]
          rw [if_neg (by rw [List.isEmpty_iff]; intro e; rw [e] at hfl; simp at hfl; omega), List.append_nil] at hst
          have HS := Lib.hid hst
          clear hst hT
          go_wp2_with fail
          go_roundw
          case rel => exact ⟨a', n', c', k + 1, by omega, by omega, by go_num, rfl, by rw [HS.out]; exact hown, hB⟩
          case measure => simp [intOf]; omega
      · obtain rfl : k = m := by omega
        go_wp2_with fail
        go_wp2_with fail
        exact bodyPost_ret (v := .tuple #[.slice a' n' c', .int .i64 0]) (by simp [results, Try.results50, go_sem]) rfl ⟨hb1.trans (hB.mono hb1.size), a', n', c', by rw [hc0], by rw [HR.out]; exact hown.more hb1.size⟩
  · rintro e w1 ⟨hb1, hres⟩
    rw [if_neg hc] at hres
    subst hres
    have hd : (codeP l != 0) = true := by simp [hc]
    go_wp2_with fail
    exact bodyPost_ret (v := .tuple #[.slice none 0 0, .int .i64 (codeP l)]) (by simp [results, Try.results50, go_sem]) rfl ⟨hb1, none, 0, 0, rfl, by unfold missP; rw [if_neg hc]; exact Ow.nil _ _ _⟩
def thB (l : List PartV) (k i : Nat) : Bool := !(textsP (l.take k) i).isEmpty
/-- Which of the eight indices are there. -/
def ThAt (G : Nat) (l : List PartV) (k : Nat) (w : World) : Prop := (∀ i, i < 8 → w.cell? ⟨G, i, none⟩ = some (.bool (thB l k i))) ∧ ∀ i, w.frozen? ⟨G, i, none⟩ = false
theorem thAt_to {G k : Nat} {l : List PartV} {w w' : World} (h : ThAt G l k w) (hb : Below w.heap.size w w') (hlt : G < w.heap.size) : ThAt G l k w' :=
  ⟨fun i hi => ((bcell hb).1 G i hlt).trans (h.1 i hi), fun i => ((bcell hb).2 G i hlt).trans (h.2 i)⟩
theorem thAt_set {G k kk : Nat} {l : List PartV} {w : World} {q : PartV} (h : ThAt G l k w) (hq : l[k]? = some q) (hix : q.ix = (kk : Int)) : ThAt G l (k + 1) (w.setCell ⟨G, kk, none⟩ (.bool true)) := by
  refine ⟨fun i hi => ?_, fun i => by have := h.2 i; simpa using this⟩
  have hs : textsP (l.take (k + 1)) i = textsP (l.take k) i ++ (if q.ix = (i : Int) then [q.tx] else []) := by
    rw [List.take_add_one, hq]
    exact textsP_snoc _ _ _
  by_cases e : i = kk
  · subst e
    rw [World.cell?_setCell_same _ _ _ (h.1 i hi)]
    unfold thB
    rw [hs, if_pos hix]
    simp
  · rw [World.cell?_setCell_other _ _ _ _ (by intro h; injection h with _ h; exact e h.symm), h.1 i hi]
    unfold thB
    rw [hs, if_neg (by omega), List.append_nil]
set_option maxHeartbeats 2000000 in
set_option maxRecDepth 20000 in
theorem implMissing_any (a : Option Addr) (n c : Nat) (l : List PartV) (w : World) (h : RdP w a n l) (hn : n ≤ 1048576) (hl : ∀ p ∈ l, partFits p ∧ p.tx.size ≤ 1048576) :
    Calls Try.prog 52 #[.slice a n c] w (RetMiss l w) := by
  obtain ⟨i0, hi, hz0, hz1, hz2⟩ := info_parts info_int64
  go_enter Try.func52, Try.ntmps52
  go_wp2_with fail
  refine (partsCode_any a n c l _ h hn hl).mono ?_
  rintro e w1 ⟨rfl, hb1⟩
  by_cases hc : codeP l = 0
  · have hbd := codeP_bd hc
    have hd : (codeP l != 0) = false := by simp [hc]
    have hlen := h.len
    have hn8 : n ≤ 8 ∧ 1 ≤ n := by omega
    have hq0 : l[0]? = some (hdP l) := by
      cases l with
      | nil => simp at hlen; omega
      | cons p l => rfl
    have H := Lib.hid (fun W (hb : Below w1.heap.size w1 W) => (h.to hb1).to hb)
    have hT0 : ThAt w1.heap.size l 0 (w1.alloc (.cells #[.bool false, .bool false, .bool false, .bool false, .bool false, .bool false, .bool false, .bool false] 136)) := by
      refine ⟨fun i hi => ?_, fun i => frozen_of_row _ _ _ _ _ (heap_alloc_new w1 _)⟩
      rw [cell_of_row _ _ _ _ _ (0, 0) (heap_alloc_new w1 _)]
      rcases i with _ | _ | _ | _ | _ | _ | _ | _ | i
      all_goals first | omega | rfl
    have hal := Below.alloc (Below.refl w1.heap.size w1) (Nat.le_refl _) (.cells #[.bool false, .bool false, .bool false, .bool false, .bool false, .bool false, .bool false, .bool false] 136)
    have hs1 : w1.heap.size < (w1.alloc (.cells #[.bool false, .bool false, .bool false, .bool false, .bool false, .bool false, .bool false, .bool false] 136)).heap.size := by simp
    have HC := Lib.hid hc
    clear h
    rw [hc] at hd ⊢
    go_wp2_with fail
    generalize (w1.alloc (.cells #[.bool false, .bool false, .bool false, .bool false, .bool false, .bool false, .bool false, .bool false] 136)) = W0 at *
    generalize hG : w1.heap.size = G at *
    go_loopw [17] (fun i wr => ∃ k : Nat, k ≤ n ∧ i = .int .i64 (k : Int) ∧ ThAt G l k wr ∧ Below G w1 wr ∧ G < wr.heap.size) (fun i _ => n - (intOf i).toNat)
    case atStart => exact ⟨0, by omega, rfl, hT0, hal, hs1⟩
    case round =>
      clear hT0 hal hs1
      obtain ⟨k, hk, rfl, hT, hB, hgl⟩ := hrel
      by_cases hlt : k < n
      · have hq : l[k]? = some (l[k]'(by omega)) := List.getElem?_eq_getElem _
        have hqd := okP_bd (List.all_eq_true.1 hbd.2.1 _ (List.mem_of_getElem? hq))
        generalize l[k]'(by omega) = q at *
        obtain ⟨b, o, rfl, hlb, c0, c1, c2, c3⟩ := (H.out wr hB).at_ hq
        obtain ⟨kk, hkk⟩ : ∃ kk : Nat, q.ix = (kk : Int) := ⟨q.ix.toNat, by omega⟩
        have hl1 : (0 : Int) ≤ (k : Int) := by omega
        have hl2 : (k : Int) < (n : Int) := by omega
        have hk1 : (0 : Int) ≤ (kk : Int) := by omega
        have hk2 : (kk : Int) < 8 := by omega
        have tc := hT.1 kk (by omega)
        have tz := hT.2 kk
        have hTs := thAt_set hT hq hkk
        rw [hkk] at c0
        have nw : wr.heap.size ≠ G := by omega
        have nw' : G ≠ wr.heap.size := by omega
        go_wp2_with fail
        go_roundw
        case rel => exact ⟨k + 1, by omega, by go_num, thAt_to hTs (Below.alloc (Below.refl _ _) (Nat.le_refl _) _) (by simpa using hgl), Below.alloc (hB.setCell (Nat.le_refl _) _) (by simp; omega) _, by simp; omega⟩
        case measure => simp [intOf]; omega
      · obtain rfl : k = n := by omega
        have hbo := okP_bd (List.all_eq_true.1 hbd.2.1 _ (List.mem_of_getElem? hq0))
        obtain ⟨m, hm⟩ : ∃ m : Nat, (hdP l).ct = (m : Int) := ⟨(hdP l).ct.toNat, by omega⟩
        have HR := Lib.hid (show missP l = misK l m by unfold missP; rw [if_pos HC.out, hm]; rfl)
        have hth : ∀ i, thB l k i = !(textsP l i).isEmpty := fun i => by unfold thB; rw [List.take_of_length_le (by omega)]
        have hO := Ow.empty .i64 2 wr.heap.size wr (Nat.le_refl _)
        have hal := Below.alloc (Below.refl wr.heap.size wr) (Nat.le_refl _) (.cells #[] 2)
        have hm8 : m ≤ 8 := by omega
        have hgg : G ≤ wr.heap.size := by omega
        go_wp2_with fail
        have HT := Lib.hid (fun W (hb : Below wr.heap.size wr W) => thAt_to hT hb hgl)
        have HP := Lib.hid (fun W (hb : Below wr.heap.size wr W) => H.out W (hB.trans (hb.mono (by omega))))
        clear hT
        go_loopw [8, 9] (fun o i wr2 => ∃ (a' : Option Addr) (n' c' k2 : Nat), k2 ≤ m ∧ n' ≤ k2 ∧ i = .int .i64 (k2 : Int) ∧ o = .slice a' n' c' ∧ Ow .i64 2 wr.heap.size wr2 a' n' c' (misK l k2) ∧ Below wr.heap.size wr wr2) (fun _ i _ => m - (intOf i).toNat)
        case atStart => exact ⟨_, 0, 0, 0, by omega, by omega, rfl, rfl, hO, hal⟩
        case round =>
          clear hO hal
          obtain ⟨a', n', c', k2, hk2, hn', rfl, rfl, hown, hB2⟩ := hrel
          obtain ⟨b, o, rfl, hlb, p0, p1, p2, p3⟩ := (HP.out _ hB2).at_ hq0
          simp only [Nat.zero_mul, Nat.add_zero, hm] at p0 p1 p2 p3
          have hk3 : (0 : Int) < (k : Int) := by omega
          by_cases hlt2 : k2 < m
          · have tc := (HT.out _ hB2).1 k2 (by omega)
            rw [hth] at tc
            have hst := misK_step l k2
            have hk1 : (0 : Int) ≤ (k2 : Int) := by omega
            have hk4 : (k2 : Int) < 8 := by omega
            cases hz : (textsP l k2).isEmpty with
            | true =>
              rw [hz] at tc
              simp only [Bool.not_true] at tc
              rw [if_pos hz] at hst
              have HS := Lib.hid hst
              clear hst
              go_wp2_with (at_builtin; refine wpList_push .i64 _ rfl _ _ 25 rfl _ 2 _ i0 8 Try.underlying25 hi hz0 hz1 hz2 (by omega) a' n' c' (misK l k2) _ rfl hown rfl (by omega) (by have := hB2.size; omega) ?_; intro a3 n3 c3 w3 hown3 hbel3)
              rw [← HS.out] at hown3
              have hn3 := hown3.len
              have hn4 := misK_len l (k2 + 1)
              go_roundw
              case rel => exact ⟨a3, n3, c3, k2 + 1, by omega, by omega, by go_num, rfl, hown3, hB2.trans hbel3⟩
              case measure => simp [intOf]; omega
            | false =>
              rw [hz] at tc
              simp only [Bool.not_false] at tc
              rw [if_neg (by rw [hz]; decide), List.append_nil] at hst
              have HS := Lib.hid hst
              clear hst
              go_wp2_with fail
              go_roundw
              case rel => exact ⟨a', n', c', k2 + 1, by omega, by omega, by go_num, rfl, by rw [HS.out]; exact hown, hB2⟩
              case measure => simp [intOf]; omega
          · obtain rfl : k2 = m := by omega
            go_wp2_with fail
            go_wp2_with fail
            exact bodyPost_ret (v := .tuple #[.slice a' n' c', .int .i64 0]) (by simp [results, Try.results52, go_sem]) rfl ⟨hb1.trans ((hB.trans (hB2.mono hgg)).mono (by have := hb1.size; omega)), a', n', c', by rw [HC.out], by rw [HR.out]; exact hown.more (by have := hb1.size; omega)⟩
  · have hd : (codeP l != 0) = true := by simp [hc]
    go_wp2_with fail
    exact bodyPost_ret (v := .tuple #[.slice none 0 0, .int .i64 (codeP l)]) (by simp [results, Try.results52, go_sem]) rfl ⟨hb1, none, 0, 0, rfl, by unfold missP; rw [if_neg hc]; exact Ow.nil _ _ _⟩
end Go.Proofs.Ytckmenjbblgiiaa
