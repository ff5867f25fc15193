/-
  Contract: the reference's JoinParts. What joining answers, in plain words.
  Conditions: lists of at most 2^20 parts.
-/
import Derived.Test.YtnajjofaijpciaaDoorPartE
import Derived.Test.YtnajjofaijpciaaDoorSmallA
set_option linter.unusedVariables false
namespace Go.Proofs.YtnajjofaijpciaaDoor
open Go.RowKit Go.G8
def txtP (l : List PartV) (k : Nat) : ByteArray := (textsP l k).headD ⟨#[]⟩
/-- The bytes of the texts of the first k indices. -/
def catP (l : List PartV) (k : Nat) : List Int := (List.range k).flatMap (fun i => strI (txtP l i))
def oneP (l : List PartV) (k : Nat) : Bool := (List.range k).all (fun i => decide ((textsP l i).length = 1))
def rJoin (l : List PartV) : ByteArray × Int :=
  if codeP l = 0 then
    (if oneP l (hdP l).ct.toNat = true then
      (if parity (catP l (hdP l).ct.toNat) = (hdP l).pr then (if 400 < (catP l (hdP l).ct.toNat).length then (⟨#[]⟩, 3) else (strOfNums (catP l (hdP l).ct.toNat), 0)) else (⟨#[]⟩, 7))
    else (⟨#[]⟩, 5))
  else (⟨#[]⟩, codeP l)
theorem catP_succ (l : List PartV) (k : Nat) : catP l (k + 1) = catP l k ++ strI (txtP l k) := by simp [catP, List.range_succ]
theorem oneP_succ (l : List PartV) (k : Nat) : oneP l (k + 1) = (oneP l k && decide ((textsP l k).length = 1)) := by simp [oneP, List.range_succ]
theorem oneP_bad {l : List PartV} {k n : Nat} (h : k < n) (hb : (textsP l k).length ≠ 1) : oneP l n = false := by
  cases e : oneP l n with
  | false => rfl
  | true =>
    have := List.all_eq_true.1 e k (List.mem_range.2 h)
    rw [decide_eq_true_eq] at this
    exact absurd this hb
theorem okP_code {l : List PartV} (h : codeP l = 0) : (1 ≤ l.length ∧ l.length ≤ 8) ∧ l.all okP = true ∧ l.all (likeP (hdP l)) = true := by
  unfold codeP at h
  split at h
  · omega
  · rename_i h1
    split at h
    · omega
    · rename_i h2
      split at h
      · omega
      · rename_i h3
        exact ⟨Classical.not_not.1 h1, by simpa using h2, by simpa using h3⟩
theorem txtP_size {l : List PartV} (h : l.all okP = true) (k : Nat) : (txtP l k).size ≤ 400 := by
  unfold txtP
  cases e : textsP l k with
  | nil => exact Nat.zero_le _
  | cons s r =>
    show s.size ≤ 400
    have hm : s ∈ textsP l k := by rw [e]; exact List.mem_cons_self
    unfold textsP at hm
    obtain ⟨p, hp, rfl⟩ := List.mem_map.1 hm
    exact (okP_bd (List.all_eq_true.1 h p (List.mem_filter.1 hp).1)).2.2.2
theorem strI_len2 (s : ByteArray) : (strI s).length = s.size := by
  unfold strI
  rw [List.length_map]
  rfl
theorem catP_len {l : List PartV} (h : l.all okP = true) (k : Nat) : (catP l k).length ≤ 400 * k := by
  induction k with
  | zero => simp [catP]
  | succ k ih =>
    rw [catP_succ, List.length_append, strI_len2]
    have := txtP_size h k
    omega
theorem strOf_app2 (xs : List Int) (s : ByteArray) : strOfNums (xs ++ strI s) = strOfNums xs ++ s := by
  apply ByteArray.ext
  rw [ByteArray.data_append]
  have e : List.map (fun b : UInt8 => UInt8.ofNat ((b.toNat : Int)).toNat) s.data.toList = s.data.toList := by
    conv => rhs; rw [← List.map_id s.data.toList]
    apply List.map_congr_left
    intro b _
    simp
  unfold strOfNums strI
  rw [List.map_append, List.map_map]
  show (_ ++ List.map (fun b : UInt8 => UInt8.ofNat ((b.toNat : Int)).toNat) s.data.toList).toArray = _
  rw [e]
  simp
theorem strOf_size2 (l : List Int) : (strOfNums l).size = l.length := by simp [strOfNums, ByteArray.size]
theorem strI_of {l : List Int} (h : ∀ x ∈ l, 0 ≤ x ∧ x ≤ 255) : strI (strOfNums l) = l := by
  unfold strI strOfNums
  show List.map _ (List.map _ l).toArray.toList = l
  rw [List.map_map]
  conv => rhs; rw [← List.map_id l]
  apply List.map_congr_left
  intro x hx
  have := h x hx
  show (((UInt8.ofNat x.toNat).toNat : Nat) : Int) = x
  rw [UInt8.toNat_ofNat']
  omega
theorem strI_bytes (s : ByteArray) : ∀ x ∈ strI s, 0 ≤ x ∧ x ≤ 255 := by
  intro x hx
  unfold strI at hx
  obtain ⟨b, -, rfl⟩ := List.mem_map.1 hx
  have := b.toNat_lt
  omega
theorem catP_bytes (l : List PartV) (k : Nat) : ∀ x ∈ catP l k, 0 ≤ x ∧ x ≤ 255 := by
  intro x hx
  unfold catP at hx
  obtain ⟨i, -, hi⟩ := List.mem_flatMap.1 hx
  exact strI_bytes _ x hi
theorem hd_get {l : List PartV} (h : 1 ≤ l.length) : l[0]? = some (hdP l) := by
  cases l with
  | nil => simp at h
  | cons p l => rfl
end Go.Proofs.YtnajjofaijpciaaDoor
