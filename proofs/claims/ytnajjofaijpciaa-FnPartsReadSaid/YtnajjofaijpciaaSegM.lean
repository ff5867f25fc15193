/-
  Contracts: what the program's modes answer, told for all of them at once.
  Conditions: the numbers of modes.
-/
import Derived.Test.YtnajjofaijpciaaSegE1
import Derived.Test.YtnajjofaijpciaaSegE2
import Derived.Test.YtnajjofaijpciaaSegE3
import Derived.Test.YtnajjofaijpciaaSegE4
set_option linter.unusedVariables false
namespace Go.Proofs.Ytnajjofaijpciaa
open Go.RowKit Go.G8
theorem enter_run {f : FuncId} {fn : Func} {c : Code} (hf : Try.prog.funcs[f]? = some fn) (hn : (fn.name == "runtime.NumGoroutine") = false) (hb : fn.body = some c) (args : Array Value) (w : World) : (callFunc f args).run Try.prog w = .ok (.enter f args) w := by
  have h1 : fn.name ≠ "runtime.NumGoroutine" := by simpa using hn
  simp [callFunc, hf, h1, hb]
structure ModeOk (M : Int) (t : TypeId) (v : Value) (fG fW fC fB : FuncId) (W : World) : Prop where
  mG : ∀ w : World, (method 245 t v "loop.example/g00879/impl.group").run Try.prog w = .ok (fG, v) w
  eG : ∀ (args : Array Value) (w : World), (callFunc fG args).run Try.prog w = .ok (.enter fG args) w
  nG : ∀ w : World, (nilAhead 245 t v "loop.example/g00879/impl.group").run Try.prog w = .ok (some false) w
  mW : ∀ w : World, (method 245 t v "loop.example/g00879/impl.width").run Try.prog w = .ok (fW, v) w
  eW : ∀ (args : Array Value) (w : World), (callFunc fW args).run Try.prog w = .ok (.enter fW args) w
  nW : ∀ w : World, (nilAhead 245 t v "loop.example/g00879/impl.width").run Try.prog w = .ok (some false) w
  mC : ∀ w : World, (method 245 t v "loop.example/g00879/impl.character").run Try.prog w = .ok (fC, v) w
  eC : ∀ (args : Array Value) (w : World), (callFunc fC args).run Try.prog w = .ok (.enter fC args) w
  nC : ∀ w : World, (nilAhead 245 t v "loop.example/g00879/impl.character").run Try.prog w = .ok (some false) w
  mB : ∀ w : World, (method 245 t v "loop.example/g00879/impl.base").run Try.prog w = .ok (fB, v) w
  eB : ∀ (args : Array Value) (w : World), (callFunc fB args).run Try.prog w = .ok (.enter fB args) w
  nB : ∀ w : World, (nilAhead 245 t v "loop.example/g00879/impl.base").run Try.prog w = .ok (some false) w
  cG : ∀ w, Calls Try.prog fG #[v] w (Ret (.int .i64 (gSize M)) w)
  cW : ∀ w n, Below W.heap.size W w → 1 ≤ n → n ≤ gSize M → Calls Try.prog fW #[v, .int .i64 n] w (Ret (.int .i64 (gWidth M n)) w)
  cC : ∀ w x, 0 ≤ x → x < gCap M → Calls Try.prog fC #[v, .int .i64 x] w (Ret (.int .u8 (chr M x)) w)
  cB : ∀ w, Calls Try.prog fB #[v] w (Ret (.int .i64 (gCap M)) w)
  cT : ∀ (w : World) (n : Nat), Below W.heap.size W w → 1 ≤ n → n ≤ 255 → Calls Try.prog 59 #[.iface t v, .int .i64 n] w (Ret (.int .i64 (gLen M n - 11)) w)
theorem modeOf_any (M : Int) (w : World) (h : 1 ≤ M ∧ M ≤ 4) : Calls Try.prog 58 #[.int .i64 M] w (fun e w' => ∃ (t : TypeId) (v : Value) (fG fW fC fB : FuncId), e = .returned (.tuple #[.iface t v, .bool true]) ∧ Below w.heap.size w w' ∧ ModeOk M t v fG fW fC fB w') := by
  rcases mode_cases h with rfl | rfl | rfl | rfl
  · refine (modeOf_1 w).mono ?_
    rintro e w1 ⟨rfl, hbel, hlt, c0, c1, c2⟩
    refine ⟨_, _, 114, 116, 113, 112, rfl, hbel, ⟨fun _ => by kernel_rfl, fun a w => enter_run Try.func114 (by kernel_rfl) rfl a w, fun _ => by kernel_rfl, fun _ => by kernel_rfl, fun a w => enter_run Try.func116 (by kernel_rfl) rfl a w, fun _ => by kernel_rfl, fun _ => by kernel_rfl, fun a w => enter_run Try.func113 (by kernel_rfl) rfl a w, fun _ => by kernel_rfl, fun _ => by kernel_rfl, fun a w => enter_run Try.func112 (by kernel_rfl) rfl a w, fun _ => by kernel_rfl, fun w => group_1 _ w, ?_, fun w x h0 h1 => character_1 _ x w h0 h1, fun w => base_1 _ w, ?_⟩⟩
    · intro W n hb h0 h1
      exact width_1 w.heap.size n W ⟨h0, h1⟩ (Nat.lt_of_lt_of_le hlt hb.size) ((hb.cell (p := ⟨w.heap.size, 0, none⟩) hlt).trans c0) ((hb.cell (p := ⟨w.heap.size, 1, none⟩) hlt).trans c1) ((hb.cell (p := ⟨w.heap.size, 2, none⟩) hlt).trans c2)
    · intro W n hb h0 h1
      exact textWidth_1 w.heap.size n W ⟨h0, h1⟩ (Nat.lt_of_lt_of_le hlt hb.size) ((hb.cell (p := ⟨w.heap.size, 0, none⟩) hlt).trans c0) ((hb.cell (p := ⟨w.heap.size, 1, none⟩) hlt).trans c1) ((hb.cell (p := ⟨w.heap.size, 2, none⟩) hlt).trans c2)
  · refine (modeOf_2 w).mono ?_
    rintro e w1 ⟨rfl, hbel, hlt, c0, c1⟩
    refine ⟨_, _, 114, 116, 113, 112, rfl, hbel, ⟨fun _ => by kernel_rfl, fun a w => enter_run Try.func114 (by kernel_rfl) rfl a w, fun _ => by kernel_rfl, fun _ => by kernel_rfl, fun a w => enter_run Try.func116 (by kernel_rfl) rfl a w, fun _ => by kernel_rfl, fun _ => by kernel_rfl, fun a w => enter_run Try.func113 (by kernel_rfl) rfl a w, fun _ => by kernel_rfl, fun _ => by kernel_rfl, fun a w => enter_run Try.func112 (by kernel_rfl) rfl a w, fun _ => by kernel_rfl, fun w => group_2 _ w, ?_, fun w x h0 h1 => character_2 _ x w h0 h1, fun w => base_2 _ w, ?_⟩⟩
    · intro W n hb h0 h1
      exact width_2 w.heap.size n W ⟨h0, h1⟩ (Nat.lt_of_lt_of_le hlt hb.size) ((hb.cell (p := ⟨w.heap.size, 0, none⟩) hlt).trans c0) ((hb.cell (p := ⟨w.heap.size, 1, none⟩) hlt).trans c1)
    · intro W n hb h0 h1
      exact textWidth_2 w.heap.size n W ⟨h0, h1⟩ (Nat.lt_of_lt_of_le hlt hb.size) ((hb.cell (p := ⟨w.heap.size, 0, none⟩) hlt).trans c0) ((hb.cell (p := ⟨w.heap.size, 1, none⟩) hlt).trans c1)
  · refine (modeOf_3 w).mono ?_
    rintro e w1 ⟨rfl, hbel, hlt, c0⟩
    refine ⟨_, _, 114, 116, 113, 112, rfl, hbel, ⟨fun _ => by kernel_rfl, fun a w => enter_run Try.func114 (by kernel_rfl) rfl a w, fun _ => by kernel_rfl, fun _ => by kernel_rfl, fun a w => enter_run Try.func116 (by kernel_rfl) rfl a w, fun _ => by kernel_rfl, fun _ => by kernel_rfl, fun a w => enter_run Try.func113 (by kernel_rfl) rfl a w, fun _ => by kernel_rfl, fun _ => by kernel_rfl, fun a w => enter_run Try.func112 (by kernel_rfl) rfl a w, fun _ => by kernel_rfl, fun w => group_3 _ w, ?_, fun w x h0 h1 => character_3 _ x w h0 h1, fun w => base_3 _ w, ?_⟩⟩
    · intro W n hb h0 h1
      exact width_3 w.heap.size n W ⟨h0, h1⟩ (Nat.lt_of_lt_of_le hlt hb.size) ((hb.cell (p := ⟨w.heap.size, 0, none⟩) hlt).trans c0)
    · intro W n hb h0 h1
      exact textWidth_3 w.heap.size n W ⟨h0, h1⟩ (Nat.lt_of_lt_of_le hlt hb.size) ((hb.cell (p := ⟨w.heap.size, 0, none⟩) hlt).trans c0)
  · refine (modeOf_4 w).mono ?_
    rintro e w1 ⟨rfl, rfl⟩
    exact ⟨_, _, 119, 121, 118, 117, rfl, Below.refl _ _, ⟨fun _ => by kernel_rfl, fun a w => enter_run Try.func119 (by kernel_rfl) rfl a w, fun _ => by kernel_rfl, fun _ => by kernel_rfl, fun a w => enter_run Try.func121 (by kernel_rfl) rfl a w, fun _ => by kernel_rfl, fun _ => by kernel_rfl, fun a w => enter_run Try.func118 (by kernel_rfl) rfl a w, fun _ => by kernel_rfl, fun _ => by kernel_rfl, fun a w => enter_run Try.func117 (by kernel_rfl) rfl a w, fun _ => by kernel_rfl, fun w => plain_group w, fun W n _ _ _ => plain_width n W, fun w x h0 h1 => plain_character x w h0 h1, fun w => plain_base w, fun W n _ h0 h1 => textWidth_4 n W ⟨h0, h1⟩⟩⟩
end Go.Proofs.Ytnajjofaijpciaa
