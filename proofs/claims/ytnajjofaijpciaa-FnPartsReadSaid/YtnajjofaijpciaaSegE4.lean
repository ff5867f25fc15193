/-
  Contracts: the program's width of texts, mode 4.
  Conditions: texts of 1 to 255 bytes.
-/
import Derived.Test.YtnajjofaijpciaaMg16
set_option linter.unusedVariables false
namespace Go.Proofs.Ytnajjofaijpciaa
open Go.RowKit Go.G8
theorem plain_base (w : World) : Calls Try.prog 117 #[.agg #[]] w (Ret (.int .i64 256) w) := by
  go_enter Try.func117, Try.ntmps117
  go_wp2
  go_ret
  exact ⟨rfl, Below.alloc (Below.refl _ _) (Nat.le_refl _) _⟩
theorem plain_group (w : World) : Calls Try.prog 119 #[.agg #[]] w (Ret (.int .i64 1) w) := by
  go_enter Try.func119, Try.ntmps119
  go_wp2
  go_ret
  exact ⟨rfl, Below.alloc (Below.refl _ _) (Nat.le_refl _) _⟩
theorem plain_width (n : Int) (w : World) : Calls Try.prog 121 #[.agg #[], .int .i64 n] w (Ret (.int .i64 8) w) := by
  go_enter Try.func121, Try.ntmps121
  go_wp2
  go_ret
  exact ⟨rfl, Below.alloc (Below.refl _ _) (Nat.le_refl _) _⟩
theorem plain_character (x : Int) (w : World) (h0 : 0 ≤ x) (h1 : x < 256) : Calls Try.prog 118 #[.agg #[], .int .i64 x] w (Ret (.int .u8 (chr 4 x)) w) := by
  have hr := Lib.hid (show chr 4 x = x from rfl)
  go_enter Try.func118, Try.ntmps118
  go_wp2
  go_ret
  exact ⟨ret_int hr.out.symm, Below.alloc (Below.refl _ _) (Nat.le_refl _) _⟩
set_option maxHeartbeats 2000000 in
set_option maxRecDepth 20000 in
theorem textWidth_4 (n : Nat) (w : World) (hn : 1 ≤ n ∧ n ≤ 255) :
  Calls Try.prog 59 #[.iface 108 (.agg #[]), .int .i64 n] w (Ret (.int .i64 (gLen 4 n - 11)) w) := by
  obtain ⟨hn1, hn2⟩ := hn
  obtain ⟨q, hq⟩ : ∃ q, n / 1 = q := ⟨_, rfl⟩
  obtain ⟨r, hr⟩ : ∃ r, n % 1 = r := ⟨_, rfl⟩
  have hr3 : r < 1 := by omega
  have hq3 : q ≤ 255 := by omega
  have t1 : (n : Int).tdiv 1 = (q : Int) := by rw [Int.tdiv_eq_ediv_of_nonneg (by omega)]; omega
  have t2 : (n : Int).tmod 1 = (r : Int) := by rw [Int.tmod_eq_emod_of_nonneg (by omega)]; omega
  have u1 : IntKind.i64.wrap (q : Int) = (q : Int) := IntWalk.i64_in _ (by omega)
  have u2 : IntKind.i64.wrap ((q : Int) * 8) = (q : Int) * 8 := IntWalk.i64_in _ (by omega)
  have hd : Below w.heap.size w w.drew := (Below.refl _ _).drew
  have HG := Lib.hid (fun w => plain_group w)
  have HC := Lib.hid trivial
  have HW := Lib.hid (fun (n : Int) (W : World) (h : Below w.heap.size w W) (hn : 1 ≤ n ∧ n ≤ 1) => plain_width n W)
  have hmg : ∀ w : World, (method 245 108 (.agg #[]) "loop.example/g00879/impl.group").run Try.prog w = .ok (119, .agg #[]) w := fun _ => by kernel_rfl
  have hmw : ∀ w : World, (method 245 108 (.agg #[]) "loop.example/g00879/impl.width").run Try.prog w = .ok (121, .agg #[]) w := fun _ => by kernel_rfl
  have hmn : ∀ w : World, (nilAhead 245 108 (.agg #[]) "loop.example/g00879/impl.width").run Try.prog w = .ok (some false) w := fun _ => by kernel_rfl
  have hmf : ∀ (fn : Fn) (first cap : Array Value) (w : World), (Instr.makeFunc fn first cap).run Try.prog w = .ok (.func fn first cap) w := fun _ _ _ _ => rfl
  have hgl : gLen 4 n - 11 = (q : Int) * 8 + (if 0 < (r : Int) then gWidth 4 r else 0) := by
    have e1 : (n : Int) / 1 = q := by omega
    have e2 : (n : Int) % 1 = r := by omega
    show 11 + (n : Int) / 1 * 8 + (if 0 < (n : Int) % 1 then gWidth 4 ((n : Int) % 1) else 0) - 11 = _
    rw [e1, e2]
    omega
  rw [hgl]
  have HW1 := Lib.hid (fun (W : World) (h : Below w.heap.size w W) => (show Calls Try.prog 121 #[.agg #[], .int .i64 1] W (Ret (.int .i64 8) W) from HW.out 1 W h (by decide)))
  clear hq hr HW HC hgl
  have hc : r = 0 := by omega
  clear hr3
  subst hc
  · go_enter Try.func59, Try.ntmps59
    go_wp2_with fail
    go_region_held3 (fun _ => True) (first | trivial) (first | (go_at_call 119; refine (HG.out _).mono ?_; first | (rintro e wB ⟨rfl, hbB⟩; have B2 := bt B1 hbB) | (rintro e wA ⟨rfl, hbA⟩; have B1 := bt hd hbA)) | (go_at_call 121; refine (HW1.out _ B2).mono ?_; rintro e w2 ⟨rfl, hb2⟩; have B3 := Lib.hid (bt B2 hb2)))
    all_goals clear B2 B1 hbA hbB hb2
    all_goals go_wp2_with fail
    all_goals refine (HG.out _).mono ?_
    all_goals rintro e w3 ⟨rfl, hb3⟩
    all_goals have B4 := bt B3.out hb3
    all_goals go_wp2_with fail
    all_goals go_ret
    all_goals exact ⟨ret_int (by simp), B4⟩
end Go.Proofs.Ytnajjofaijpciaa
