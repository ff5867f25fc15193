/-
  Contracts: the program's width of texts, mode 1.
  Conditions: texts of 1 to 255 bytes.
-/
import Derived.Test.YtnajjofaijpciaaMg16
set_option linter.unusedVariables false
namespace Go.Proofs.Ytnajjofaijpciaa
open Go.RowKit Go.G8
set_option maxHeartbeats 2000000 in
set_option maxRecDepth 20000 in
theorem textWidth_1 (b n : Nat) (w : World) (hn : 1 ≤ n ∧ n ≤ 255) (hb : b < w.heap.size) (c0 : w.cell? ⟨b, 0, none⟩ = some (.int .i64 4)) (c1 : w.cell? ⟨b, 1, none⟩ = some (.int .i64 7)) (c2 : w.cell? ⟨b, 2, none⟩ = some (.int .i64 10)) :
  Calls Try.prog 59 #[.iface 106 (.agg #[.string ⟨#[48, 49, 50, 51, 52, 53, 54, 55, 56, 57]⟩, .slice (some ⟨b, 0, none⟩) 3 3]), .int .i64 n] w (Ret (.int .i64 (gLen 1 n - 11)) w) := by
  obtain ⟨hn1, hn2⟩ := hn
  obtain ⟨q, hq⟩ : ∃ q, n / 3 = q := ⟨_, rfl⟩
  obtain ⟨r, hr⟩ : ∃ r, n % 3 = r := ⟨_, rfl⟩
  have hr3 : r < 3 := by omega
  have hq3 : q ≤ 255 := by omega
  have t1 : (n : Int).tdiv 3 = (q : Int) := by rw [Int.tdiv_eq_ediv_of_nonneg (by omega)]; omega
  have t2 : (n : Int).tmod 3 = (r : Int) := by rw [Int.tmod_eq_emod_of_nonneg (by omega)]; omega
  have u1 : IntKind.i64.wrap (q : Int) = (q : Int) := IntWalk.i64_in _ (by omega)
  have u2 : IntKind.i64.wrap ((q : Int) * 10) = (q : Int) * 10 := IntWalk.i64_in _ (by omega)
  have hd : Below w.heap.size w w.drew := (Below.refl _ _).drew
  have HG := Lib.hid (fun w => group_1 (some ⟨b, 0, none⟩) w)
  have HC := Lib.hid (fun (W : World) (h : Below w.heap.size w W) => (show b < W.heap.size ∧ W.cell? ⟨b, 0, none⟩ = some (.int .i64 4) ∧ W.cell? ⟨b, 1, none⟩ = some (.int .i64 7) ∧ W.cell? ⟨b, 2, none⟩ = some (.int .i64 10) from ⟨Nat.lt_of_lt_of_le hb h.size, (h.cell (p := ⟨b, 0, none⟩) hb).trans c0, (h.cell (p := ⟨b, 1, none⟩) hb).trans c1, (h.cell (p := ⟨b, 2, none⟩) hb).trans c2⟩))
  have HW := Lib.hid (fun (n : Int) (W : World) (h : Below w.heap.size w W) (hn : 1 ≤ n ∧ n ≤ 3) => width_1 b n W hn (HC.out W h).1 (HC.out W h).2.1 (HC.out W h).2.2.1 (HC.out W h).2.2.2)
  have hmg : ∀ w : World, (method 245 106 (.agg #[.string ⟨#[48, 49, 50, 51, 52, 53, 54, 55, 56, 57]⟩, .slice (some ⟨b, 0, none⟩) 3 3]) "loop.example/g00879/impl.group").run Try.prog w = .ok (114, .agg #[.string ⟨#[48, 49, 50, 51, 52, 53, 54, 55, 56, 57]⟩, .slice (some ⟨b, 0, none⟩) 3 3]) w := fun _ => by kernel_rfl
  have hmw : ∀ w : World, (method 245 106 (.agg #[.string ⟨#[48, 49, 50, 51, 52, 53, 54, 55, 56, 57]⟩, .slice (some ⟨b, 0, none⟩) 3 3]) "loop.example/g00879/impl.width").run Try.prog w = .ok (116, .agg #[.string ⟨#[48, 49, 50, 51, 52, 53, 54, 55, 56, 57]⟩, .slice (some ⟨b, 0, none⟩) 3 3]) w := fun _ => by kernel_rfl
  have hmn : ∀ w : World, (nilAhead 245 106 (.agg #[.string ⟨#[48, 49, 50, 51, 52, 53, 54, 55, 56, 57]⟩, .slice (some ⟨b, 0, none⟩) 3 3]) "loop.example/g00879/impl.width").run Try.prog w = .ok (some false) w := fun _ => by kernel_rfl
  have hmf : ∀ (fn : Fn) (first cap : Array Value) (w : World), (Instr.makeFunc fn first cap).run Try.prog w = .ok (.func fn first cap) w := fun _ _ _ _ => rfl
  have hgl : gLen 1 n - 11 = (q : Int) * 10 + (if 0 < (r : Int) then gWidth 1 r else 0) := by
    have e1 : (n : Int) / 3 = q := by omega
    have e2 : (n : Int) % 3 = r := by omega
    show 11 + (n : Int) / 3 * 10 + (if 0 < (n : Int) % 3 then gWidth 1 ((n : Int) % 3) else 0) - 11 = _
    rw [e1, e2]
    omega
  rw [hgl]
  have HW1 := Lib.hid (fun (W : World) (h : Below w.heap.size w W) => (show Calls Try.prog 116 #[.agg #[.string ⟨#[48, 49, 50, 51, 52, 53, 54, 55, 56, 57]⟩, .slice (some ⟨b, 0, none⟩) 3 3], .int .i64 1] W (Ret (.int .i64 4) W) from HW.out 1 W h (by decide)))
  have HW2 := Lib.hid (fun (W : World) (h : Below w.heap.size w W) => (show Calls Try.prog 116 #[.agg #[.string ⟨#[48, 49, 50, 51, 52, 53, 54, 55, 56, 57]⟩, .slice (some ⟨b, 0, none⟩) 3 3], .int .i64 2] W (Ret (.int .i64 7) W) from HW.out 2 W h (by decide)))
  have HW3 := Lib.hid (fun (W : World) (h : Below w.heap.size w W) => (show Calls Try.prog 116 #[.agg #[.string ⟨#[48, 49, 50, 51, 52, 53, 54, 55, 56, 57]⟩, .slice (some ⟨b, 0, none⟩) 3 3], .int .i64 3] W (Ret (.int .i64 10) W) from HW.out 3 W h (by decide)))
  clear hq hr HW HC hgl
  have hc : r = 0 ∨ r = 1 ∨ r = 2 := by omega
  clear hr3
  rcases hc with rfl | rfl | rfl
  · go_enter Try.func59, Try.ntmps59
    go_wp2_with fail
    go_region_held3 (fun _ => True) (first | trivial) (first | (go_at_call 114; refine (HG.out _).mono ?_; first | (rintro e wB ⟨rfl, hbB⟩; have B2 := bt B1 hbB) | (rintro e wA ⟨rfl, hbA⟩; have B1 := bt hd hbA)) | (go_at_call 116; refine (HW3.out _ B2).mono ?_; rintro e w2 ⟨rfl, hb2⟩; have B3 := Lib.hid (bt B2 hb2)))
    all_goals clear B2 B1 hbA hbB hb2
    all_goals go_wp2_with fail
    all_goals refine (HG.out _).mono ?_
    all_goals rintro e w3 ⟨rfl, hb3⟩
    all_goals have B4 := bt B3.out hb3
    all_goals go_wp2_with fail
    all_goals go_ret
    all_goals exact ⟨ret_int (by simp), B4⟩
  · go_enter Try.func59, Try.ntmps59
    go_wp2_with fail
    go_region_held3 (fun _ => True) (first | trivial) (first | (go_at_call 114; refine (HG.out _).mono ?_; first | (rintro e wB ⟨rfl, hbB⟩; have B2 := bt B1 hbB) | (rintro e wA ⟨rfl, hbA⟩; have B1 := bt hd hbA)) | (go_at_call 116; refine (HW3.out _ B2).mono ?_; rintro e w2 ⟨rfl, hb2⟩; have B3 := Lib.hid (bt B2 hb2)))
    all_goals clear B2 B1 hbA hbB hb2
    all_goals go_wp2_with fail
    all_goals refine (HG.out _).mono ?_
    all_goals rintro e w3 ⟨rfl, hb3⟩
    all_goals have B4 := bt B3.out hb3
    all_goals go_wp2_with fail
    all_goals refine (HW1.out _ B4).mono ?_
    all_goals rintro e w4 ⟨rfl, hb4⟩
    all_goals go_wp2_with fail
    all_goals go_ret
    all_goals exact ⟨ret_int (by first | rfl | (simp [gWidth]; done)), bt B4 hb4⟩
  · go_enter Try.func59, Try.ntmps59
    go_wp2_with fail
    go_region_held3 (fun _ => True) (first | trivial) (first | (go_at_call 114; refine (HG.out _).mono ?_; first | (rintro e wB ⟨rfl, hbB⟩; have B2 := bt B1 hbB) | (rintro e wA ⟨rfl, hbA⟩; have B1 := bt hd hbA)) | (go_at_call 116; refine (HW3.out _ B2).mono ?_; rintro e w2 ⟨rfl, hb2⟩; have B3 := Lib.hid (bt B2 hb2)))
    all_goals clear B2 B1 hbA hbB hb2
    all_goals go_wp2_with fail
    all_goals refine (HG.out _).mono ?_
    all_goals rintro e w3 ⟨rfl, hb3⟩
    all_goals have B4 := bt B3.out hb3
    all_goals go_wp2_with fail
    all_goals refine (HW2.out _ B4).mono ?_
    all_goals rintro e w4 ⟨rfl, hb4⟩
    all_goals go_wp2_with fail
    all_goals go_ret
    all_goals exact ⟨ret_int (by first | rfl | (simp [gWidth]; done)), bt B4 hb4⟩
end Go.Proofs.Ytnajjofaijpciaa
