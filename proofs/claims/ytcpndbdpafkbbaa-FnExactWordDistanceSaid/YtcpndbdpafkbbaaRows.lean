/-
  No cell of these rows narrows 'for every input' (looked for: loops, veiled, ifaces, maps, wideKeys, modest, calm, conditions, laid).
  DERIVED. THE GIVEN ROWS OF THIS SEAT. 12 by the template 'for every input the law returns true; each argument reads behind the call as it read before'; 0 by the template 'total and deterministic' (their statements: YtcpndbdpafkbbaaTotals.lean).
  GIVEN WITH THE SEED: the statements are not yours to turn. If you find one false, say at which input.
  Laid BY PROGRAM, IN A SANDBOX (cutbox-rows.mjs): the forced cells as the released guide's own fill.sh prints them over the translation 7f35d7470861b417… (all of the seat's roots in one cut). By AI agents, Wed Nov 11 2026. No macro, syntax, notation, axiom, sorry.
-/
import Derived.Test.YtcpndbdpafkbbaaChecked
import GoSem.Claim
import GoSem.ClaimJoined
import GoSem.ClaimMapViews
import Derived.JoinedTies
import Derived.KernelRfl
namespace Go.Proofs.Ytcpndbdpafkbbaa
/- THE CELL 'sum', in the pinned program and in every row, IS THE sha256 OF THE DUMP (.gsa) THAT YtcpndbdpafkbbaaProg.lean LOADS. Nothing in Lean hashes anything: it is a label: what it is worth is what the hold of that sum in a sandbox is worth. -/
noncomputable def Try.pinned : Pinned := { name := "ytcpndbdpafkbbaa", sum := "7f35d7470861b41710b2fa113f82388ffd8162ac59f7525e95f359ad4da10eee", checked := Try.checked }
namespace Rows
def none {H : Type} : Left H := { results := [], args := [] }

/-- 'laws.FnExactIsBits': WHATEVER THE INPUT: true; the input reads as it did. -/
def fnExactIsBitsSpec : ChangeSpec := { name := "fnExactIsBits", fn := fun _ => fun
  | [d] => { results := [.lit (.bool true)], args := [d] }
  | _ => none }
def fnExactIsBitsRow : OpenClaim := { program := "ytcpndbdpafkbbaa", sum := "7f35d7470861b41710b2fa113f82388ffd8162ac59f7525e95f359ad4da10eee", func := "loop.example/g00879/laws.FnExactIsBits", spec := "fnExactIsBits", apart := false }
def FnExactIsBitsSaid : Prop := fnExactIsBitsRow.holds Try.pinned (OpenSpec.ofChange fnExactIsBitsSpec)

/-- ITS FALSE NEIGHBOUR: 'it returns false'. Refute it at one input. -/
def fnExactIsBitsWrong : ChangeSpec := { name := "fnExactIsBits", fn := fun _ => fun
  | [d] => { results := [.lit (.bool false)], args := [d] }
  | _ => none }
def FnExactIsBitsWrongFalsely : Prop := fnExactIsBitsRow.holds Try.pinned (OpenSpec.ofChange fnExactIsBitsWrong)

/-- 'laws.FnExactWordDistance': WHATEVER THE INPUT: true; the input reads as it did. -/
def fnExactWordDistanceSpec : ChangeSpec := { name := "fnExactWordDistance", fn := fun _ => fun
  | [d1, d2] => { results := [.lit (.bool true)], args := [d1, d2] }
  | _ => none }
def fnExactWordDistanceRow : OpenClaim := { program := "ytcpndbdpafkbbaa", sum := "7f35d7470861b41710b2fa113f82388ffd8162ac59f7525e95f359ad4da10eee", func := "loop.example/g00879/laws.FnExactWordDistance", spec := "fnExactWordDistance", apart := false }
def FnExactWordDistanceSaid : Prop := fnExactWordDistanceRow.holds Try.pinned (OpenSpec.ofChange fnExactWordDistanceSpec)

/-- ITS FALSE NEIGHBOUR: 'it returns false'. Refute it at one input. -/
def fnExactWordDistanceWrong : ChangeSpec := { name := "fnExactWordDistance", fn := fun _ => fun
  | [d1, d2] => { results := [.lit (.bool false)], args := [d1, d2] }
  | _ => none }
def FnExactWordDistanceWrongFalsely : Prop := fnExactWordDistanceRow.holds Try.pinned (OpenSpec.ofChange fnExactWordDistanceWrong)

/-- 'laws.FnExactReadBits': WHATEVER THE INPUT: true; the input reads as it did. -/
def fnExactReadBitsSpec : ChangeSpec := { name := "fnExactReadBits", fn := fun _ => fun
  | [d] => { results := [.lit (.bool true)], args := [d] }
  | _ => none }
def fnExactReadBitsRow : OpenClaim := { program := "ytcpndbdpafkbbaa", sum := "7f35d7470861b41710b2fa113f82388ffd8162ac59f7525e95f359ad4da10eee", func := "loop.example/g00879/laws.FnExactReadBits", spec := "fnExactReadBits", apart := false }
def FnExactReadBitsSaid : Prop := fnExactReadBitsRow.holds Try.pinned (OpenSpec.ofChange fnExactReadBitsSpec)

/-- ITS FALSE NEIGHBOUR: 'it returns false'. Refute it at one input. -/
def fnExactReadBitsWrong : ChangeSpec := { name := "fnExactReadBits", fn := fun _ => fun
  | [d] => { results := [.lit (.bool false)], args := [d] }
  | _ => none }
def FnExactReadBitsWrongFalsely : Prop := fnExactReadBitsRow.holds Try.pinned (OpenSpec.ofChange fnExactReadBitsWrong)

/-- 'laws.FnExactBitsOfString': WHATEVER THE INPUT: true; the input reads as it did. -/
def fnExactBitsOfStringSpec : ChangeSpec := { name := "fnExactBitsOfString", fn := fun _ => fun
  | [d] => { results := [.lit (.bool true)], args := [d] }
  | _ => none }
def fnExactBitsOfStringRow : OpenClaim := { program := "ytcpndbdpafkbbaa", sum := "7f35d7470861b41710b2fa113f82388ffd8162ac59f7525e95f359ad4da10eee", func := "loop.example/g00879/laws.FnExactBitsOfString", spec := "fnExactBitsOfString", apart := false }
def FnExactBitsOfStringSaid : Prop := fnExactBitsOfStringRow.holds Try.pinned (OpenSpec.ofChange fnExactBitsOfStringSpec)

/-- ITS FALSE NEIGHBOUR: 'it returns false'. Refute it at one input. -/
def fnExactBitsOfStringWrong : ChangeSpec := { name := "fnExactBitsOfString", fn := fun _ => fun
  | [d] => { results := [.lit (.bool false)], args := [d] }
  | _ => none }
def FnExactBitsOfStringWrongFalsely : Prop := fnExactBitsOfStringRow.holds Try.pinned (OpenSpec.ofChange fnExactBitsOfStringWrong)

/-- 'laws.FnExactBitsText': WHATEVER THE INPUT: true; the input reads as it did. -/
def fnExactBitsTextSpec : ChangeSpec := { name := "fnExactBitsText", fn := fun _ => fun
  | [d] => { results := [.lit (.bool true)], args := [d] }
  | _ => none }
def fnExactBitsTextRow : OpenClaim := { program := "ytcpndbdpafkbbaa", sum := "7f35d7470861b41710b2fa113f82388ffd8162ac59f7525e95f359ad4da10eee", func := "loop.example/g00879/laws.FnExactBitsText", spec := "fnExactBitsText", apart := false }
def FnExactBitsTextSaid : Prop := fnExactBitsTextRow.holds Try.pinned (OpenSpec.ofChange fnExactBitsTextSpec)

/-- ITS FALSE NEIGHBOUR: 'it returns false'. Refute it at one input. -/
def fnExactBitsTextWrong : ChangeSpec := { name := "fnExactBitsText", fn := fun _ => fun
  | [d] => { results := [.lit (.bool false)], args := [d] }
  | _ => none }
def FnExactBitsTextWrongFalsely : Prop := fnExactBitsTextRow.holds Try.pinned (OpenSpec.ofChange fnExactBitsTextWrong)

/-- 'laws.FnExactNumberAt': WHATEVER THE INPUT: true; the input reads as it did. -/
def fnExactNumberAtSpec : ChangeSpec := { name := "fnExactNumberAt", fn := fun _ => fun
  | [d1, d2, d3] => { results := [.lit (.bool true)], args := [d1, d2, d3] }
  | _ => none }
def fnExactNumberAtRow : OpenClaim := { program := "ytcpndbdpafkbbaa", sum := "7f35d7470861b41710b2fa113f82388ffd8162ac59f7525e95f359ad4da10eee", func := "loop.example/g00879/laws.FnExactNumberAt", spec := "fnExactNumberAt", apart := false }
def FnExactNumberAtSaid : Prop := fnExactNumberAtRow.holds Try.pinned (OpenSpec.ofChange fnExactNumberAtSpec)

/-- ITS FALSE NEIGHBOUR: 'it returns false'. Refute it at one input. -/
def fnExactNumberAtWrong : ChangeSpec := { name := "fnExactNumberAt", fn := fun _ => fun
  | [d1, d2, d3] => { results := [.lit (.bool false)], args := [d1, d2, d3] }
  | _ => none }
def FnExactNumberAtWrongFalsely : Prop := fnExactNumberAtRow.holds Try.pinned (OpenSpec.ofChange fnExactNumberAtWrong)

/-- 'laws.FnExactStringOfBits': WHATEVER THE INPUT: true; the input reads as it did. -/
def fnExactStringOfBitsSpec : ChangeSpec := { name := "fnExactStringOfBits", fn := fun _ => fun
  | [d] => { results := [.lit (.bool true)], args := [d] }
  | _ => none }
def fnExactStringOfBitsRow : OpenClaim := { program := "ytcpndbdpafkbbaa", sum := "7f35d7470861b41710b2fa113f82388ffd8162ac59f7525e95f359ad4da10eee", func := "loop.example/g00879/laws.FnExactStringOfBits", spec := "fnExactStringOfBits", apart := false }
def FnExactStringOfBitsSaid : Prop := fnExactStringOfBitsRow.holds Try.pinned (OpenSpec.ofChange fnExactStringOfBitsSpec)

/-- ITS FALSE NEIGHBOUR: 'it returns false'. Refute it at one input. -/
def fnExactStringOfBitsWrong : ChangeSpec := { name := "fnExactStringOfBits", fn := fun _ => fun
  | [d] => { results := [.lit (.bool false)], args := [d] }
  | _ => none }
def FnExactStringOfBitsWrongFalsely : Prop := fnExactStringOfBitsRow.holds Try.pinned (OpenSpec.ofChange fnExactStringOfBitsWrong)

/-- 'laws.FnExactBitDistance': WHATEVER THE INPUT: true; the input reads as it did. -/
def fnExactBitDistanceSpec : ChangeSpec := { name := "fnExactBitDistance", fn := fun _ => fun
  | [d1, d2] => { results := [.lit (.bool true)], args := [d1, d2] }
  | _ => none }
def fnExactBitDistanceRow : OpenClaim := { program := "ytcpndbdpafkbbaa", sum := "7f35d7470861b41710b2fa113f82388ffd8162ac59f7525e95f359ad4da10eee", func := "loop.example/g00879/laws.FnExactBitDistance", spec := "fnExactBitDistance", apart := false }
def FnExactBitDistanceSaid : Prop := fnExactBitDistanceRow.holds Try.pinned (OpenSpec.ofChange fnExactBitDistanceSpec)

/-- ITS FALSE NEIGHBOUR: 'it returns false'. Refute it at one input. -/
def fnExactBitDistanceWrong : ChangeSpec := { name := "fnExactBitDistance", fn := fun _ => fun
  | [d1, d2] => { results := [.lit (.bool false)], args := [d1, d2] }
  | _ => none }
def FnExactBitDistanceWrongFalsely : Prop := fnExactBitDistanceRow.holds Try.pinned (OpenSpec.ofChange fnExactBitDistanceWrong)

/-- 'laws.FnExactXorBits': WHATEVER THE INPUT: true; the input reads as it did. -/
def fnExactXorBitsSpec : ChangeSpec := { name := "fnExactXorBits", fn := fun _ => fun
  | [d1, d2] => { results := [.lit (.bool true)], args := [d1, d2] }
  | _ => none }
def fnExactXorBitsRow : OpenClaim := { program := "ytcpndbdpafkbbaa", sum := "7f35d7470861b41710b2fa113f82388ffd8162ac59f7525e95f359ad4da10eee", func := "loop.example/g00879/laws.FnExactXorBits", spec := "fnExactXorBits", apart := false }
def FnExactXorBitsSaid : Prop := fnExactXorBitsRow.holds Try.pinned (OpenSpec.ofChange fnExactXorBitsSpec)

/-- ITS FALSE NEIGHBOUR: 'it returns false'. Refute it at one input. -/
def fnExactXorBitsWrong : ChangeSpec := { name := "fnExactXorBits", fn := fun _ => fun
  | [d1, d2] => { results := [.lit (.bool false)], args := [d1, d2] }
  | _ => none }
def FnExactXorBitsWrongFalsely : Prop := fnExactXorBitsRow.holds Try.pinned (OpenSpec.ofChange fnExactXorBitsWrong)

/-- 'laws.FnExactAppendBits': WHATEVER THE INPUT: true; the input reads as it did. -/
def fnExactAppendBitsSpec : ChangeSpec := { name := "fnExactAppendBits", fn := fun _ => fun
  | [d1, d2, d3] => { results := [.lit (.bool true)], args := [d1, d2, d3] }
  | _ => none }
def fnExactAppendBitsRow : OpenClaim := { program := "ytcpndbdpafkbbaa", sum := "7f35d7470861b41710b2fa113f82388ffd8162ac59f7525e95f359ad4da10eee", func := "loop.example/g00879/laws.FnExactAppendBits", spec := "fnExactAppendBits", apart := false }
def FnExactAppendBitsSaid : Prop := fnExactAppendBitsRow.holds Try.pinned (OpenSpec.ofChange fnExactAppendBitsSpec)

/-- ITS FALSE NEIGHBOUR: 'it returns false'. Refute it at one input. -/
def fnExactAppendBitsWrong : ChangeSpec := { name := "fnExactAppendBits", fn := fun _ => fun
  | [d1, d2, d3] => { results := [.lit (.bool false)], args := [d1, d2, d3] }
  | _ => none }
def FnExactAppendBitsWrongFalsely : Prop := fnExactAppendBitsRow.holds Try.pinned (OpenSpec.ofChange fnExactAppendBitsWrong)

/-- 'laws.FnBitsAppended': WHATEVER THE INPUT: true; the input reads as it did. -/
def fnBitsAppendedSpec : ChangeSpec := { name := "fnBitsAppended", fn := fun _ => fun
  | [d] => { results := [.lit (.bool true)], args := [d] }
  | _ => none }
def fnBitsAppendedRow : OpenClaim := { program := "ytcpndbdpafkbbaa", sum := "7f35d7470861b41710b2fa113f82388ffd8162ac59f7525e95f359ad4da10eee", func := "loop.example/g00879/laws.FnBitsAppended", spec := "fnBitsAppended", apart := false }
def FnBitsAppendedSaid : Prop := fnBitsAppendedRow.holds Try.pinned (OpenSpec.ofChange fnBitsAppendedSpec)

/-- ITS FALSE NEIGHBOUR: 'it returns false'. Refute it at one input. -/
def fnBitsAppendedWrong : ChangeSpec := { name := "fnBitsAppended", fn := fun _ => fun
  | [d] => { results := [.lit (.bool false)], args := [d] }
  | _ => none }
def FnBitsAppendedWrongFalsely : Prop := fnBitsAppendedRow.holds Try.pinned (OpenSpec.ofChange fnBitsAppendedWrong)

/-- 'laws.FnBitDistances': WHATEVER THE INPUT: true; the input reads as it did. -/
def fnBitDistancesSpec : ChangeSpec := { name := "fnBitDistances", fn := fun _ => fun
  | [d] => { results := [.lit (.bool true)], args := [d] }
  | _ => none }
def fnBitDistancesRow : OpenClaim := { program := "ytcpndbdpafkbbaa", sum := "7f35d7470861b41710b2fa113f82388ffd8162ac59f7525e95f359ad4da10eee", func := "loop.example/g00879/laws.FnBitDistances", spec := "fnBitDistances", apart := false }
def FnBitDistancesSaid : Prop := fnBitDistancesRow.holds Try.pinned (OpenSpec.ofChange fnBitDistancesSpec)

/-- ITS FALSE NEIGHBOUR: 'it returns false'. Refute it at one input. -/
def fnBitDistancesWrong : ChangeSpec := { name := "fnBitDistances", fn := fun _ => fun
  | [d] => { results := [.lit (.bool false)], args := [d] }
  | _ => none }
def FnBitDistancesWrongFalsely : Prop := fnBitDistancesRow.holds Try.pinned (OpenSpec.ofChange fnBitDistancesWrong)

/- THE SECOND FORM. 'bulk': how many values and letters a reading holds, each counted each time it is reached (what is shared counts as often as it is met; a slice's spare places count too). A statement '..UptoSaid' is the law's where the arguments, and the package variables that the reading takes, are together of bulk at most 1048576: NARROWER than '..Said'. Prove '..Said' where nothing that the law and all that it calls make is longer than what came in: it says more and counts as full. Else prove '..UptoSaid'. A law counts once. -/
mutual
def uptoBulk {H : Type} : DataW H → Nat
  | .lit (.string bytes) => bytes.length + 1
  | .lit _ => 1
  | .nil => 1
  | .ptr d => uptoBulk d + 1
  | .slice elems spare => uptoBulkAll elems + uptoBulkAll spare + 1
  | .agg parts => uptoBulkAll parts + 1
  | .iface _ d => uptoBulk d + 1
  | .map entries => uptoBulkEntries entries + 1
  | .held _ => 1
def uptoBulkAll {H : Type} : List (DataW H) → Nat
  | [] => 0
  | d :: r => uptoBulk d + uptoBulkAll r
def uptoBulkEntries {H : Type} : List (Lit × DataW H) → Nat
  | [] => 0
  | x :: r => uptoBulkEntry x + uptoBulkEntries r
def uptoBulkEntry {H : Type} : Lit × DataW H → Nat
  | (.string bytes, d) => bytes.length + uptoBulk d + 1
  | (_, d) => uptoBulk d + 1
 end
def uptoSmall : (H : Type) → List (DataW H) → Bool := fun _ ds => decide (uptoBulkAll ds ≤ 1048576)
def OpenSpec.upto (s : _root_.Go.ChangeSpec) : _root_.Go.OpenSpec := { _root_.Go.OpenSpec.ofChange s with cond := some uptoSmall }

/-- 'laws.FnExactIsBits', WHERE WHAT IT READS IS OF BULK AT MOST 1048576: true; the input reads as it did. -/
def fnExactIsBitsUptoRow : OpenClaim := { program := "ytcpndbdpafkbbaa", sum := "7f35d7470861b41710b2fa113f82388ffd8162ac59f7525e95f359ad4da10eee", func := "loop.example/g00879/laws.FnExactIsBits", spec := "fnExactIsBits", apart := false, narrowed := true }
def FnExactIsBitsUptoSaid : Prop := fnExactIsBitsUptoRow.holds Try.pinned (OpenSpec.upto fnExactIsBitsSpec)

/-- 'laws.FnExactWordDistance', WHERE WHAT IT READS IS OF BULK AT MOST 1048576: true; the input reads as it did. -/
def fnExactWordDistanceUptoRow : OpenClaim := { program := "ytcpndbdpafkbbaa", sum := "7f35d7470861b41710b2fa113f82388ffd8162ac59f7525e95f359ad4da10eee", func := "loop.example/g00879/laws.FnExactWordDistance", spec := "fnExactWordDistance", apart := false, narrowed := true }
def FnExactWordDistanceUptoSaid : Prop := fnExactWordDistanceUptoRow.holds Try.pinned (OpenSpec.upto fnExactWordDistanceSpec)

/-- 'laws.FnExactReadBits', WHERE WHAT IT READS IS OF BULK AT MOST 1048576: true; the input reads as it did. -/
def fnExactReadBitsUptoRow : OpenClaim := { program := "ytcpndbdpafkbbaa", sum := "7f35d7470861b41710b2fa113f82388ffd8162ac59f7525e95f359ad4da10eee", func := "loop.example/g00879/laws.FnExactReadBits", spec := "fnExactReadBits", apart := false, narrowed := true }
def FnExactReadBitsUptoSaid : Prop := fnExactReadBitsUptoRow.holds Try.pinned (OpenSpec.upto fnExactReadBitsSpec)

/-- 'laws.FnExactBitsOfString', WHERE WHAT IT READS IS OF BULK AT MOST 1048576: true; the input reads as it did. -/
def fnExactBitsOfStringUptoRow : OpenClaim := { program := "ytcpndbdpafkbbaa", sum := "7f35d7470861b41710b2fa113f82388ffd8162ac59f7525e95f359ad4da10eee", func := "loop.example/g00879/laws.FnExactBitsOfString", spec := "fnExactBitsOfString", apart := false, narrowed := true }
def FnExactBitsOfStringUptoSaid : Prop := fnExactBitsOfStringUptoRow.holds Try.pinned (OpenSpec.upto fnExactBitsOfStringSpec)

/-- 'laws.FnExactBitsText', WHERE WHAT IT READS IS OF BULK AT MOST 1048576: true; the input reads as it did. -/
def fnExactBitsTextUptoRow : OpenClaim := { program := "ytcpndbdpafkbbaa", sum := "7f35d7470861b41710b2fa113f82388ffd8162ac59f7525e95f359ad4da10eee", func := "loop.example/g00879/laws.FnExactBitsText", spec := "fnExactBitsText", apart := false, narrowed := true }
def FnExactBitsTextUptoSaid : Prop := fnExactBitsTextUptoRow.holds Try.pinned (OpenSpec.upto fnExactBitsTextSpec)

/-- 'laws.FnExactNumberAt', WHERE WHAT IT READS IS OF BULK AT MOST 1048576: true; the input reads as it did. -/
def fnExactNumberAtUptoRow : OpenClaim := { program := "ytcpndbdpafkbbaa", sum := "7f35d7470861b41710b2fa113f82388ffd8162ac59f7525e95f359ad4da10eee", func := "loop.example/g00879/laws.FnExactNumberAt", spec := "fnExactNumberAt", apart := false, narrowed := true }
def FnExactNumberAtUptoSaid : Prop := fnExactNumberAtUptoRow.holds Try.pinned (OpenSpec.upto fnExactNumberAtSpec)

/-- 'laws.FnExactStringOfBits', WHERE WHAT IT READS IS OF BULK AT MOST 1048576: true; the input reads as it did. -/
def fnExactStringOfBitsUptoRow : OpenClaim := { program := "ytcpndbdpafkbbaa", sum := "7f35d7470861b41710b2fa113f82388ffd8162ac59f7525e95f359ad4da10eee", func := "loop.example/g00879/laws.FnExactStringOfBits", spec := "fnExactStringOfBits", apart := false, narrowed := true }
def FnExactStringOfBitsUptoSaid : Prop := fnExactStringOfBitsUptoRow.holds Try.pinned (OpenSpec.upto fnExactStringOfBitsSpec)

/-- 'laws.FnExactBitDistance', WHERE WHAT IT READS IS OF BULK AT MOST 1048576: true; the input reads as it did. -/
def fnExactBitDistanceUptoRow : OpenClaim := { program := "ytcpndbdpafkbbaa", sum := "7f35d7470861b41710b2fa113f82388ffd8162ac59f7525e95f359ad4da10eee", func := "loop.example/g00879/laws.FnExactBitDistance", spec := "fnExactBitDistance", apart := false, narrowed := true }
def FnExactBitDistanceUptoSaid : Prop := fnExactBitDistanceUptoRow.holds Try.pinned (OpenSpec.upto fnExactBitDistanceSpec)

/-- 'laws.FnExactXorBits', WHERE WHAT IT READS IS OF BULK AT MOST 1048576: true; the input reads as it did. -/
def fnExactXorBitsUptoRow : OpenClaim := { program := "ytcpndbdpafkbbaa", sum := "7f35d7470861b41710b2fa113f82388ffd8162ac59f7525e95f359ad4da10eee", func := "loop.example/g00879/laws.FnExactXorBits", spec := "fnExactXorBits", apart := false, narrowed := true }
def FnExactXorBitsUptoSaid : Prop := fnExactXorBitsUptoRow.holds Try.pinned (OpenSpec.upto fnExactXorBitsSpec)

/-- 'laws.FnExactAppendBits', WHERE WHAT IT READS IS OF BULK AT MOST 1048576: true; the input reads as it did. -/
def fnExactAppendBitsUptoRow : OpenClaim := { program := "ytcpndbdpafkbbaa", sum := "7f35d7470861b41710b2fa113f82388ffd8162ac59f7525e95f359ad4da10eee", func := "loop.example/g00879/laws.FnExactAppendBits", spec := "fnExactAppendBits", apart := false, narrowed := true }
def FnExactAppendBitsUptoSaid : Prop := fnExactAppendBitsUptoRow.holds Try.pinned (OpenSpec.upto fnExactAppendBitsSpec)

/-- 'laws.FnBitsAppended', WHERE WHAT IT READS IS OF BULK AT MOST 1048576: true; the input reads as it did. -/
def fnBitsAppendedUptoRow : OpenClaim := { program := "ytcpndbdpafkbbaa", sum := "7f35d7470861b41710b2fa113f82388ffd8162ac59f7525e95f359ad4da10eee", func := "loop.example/g00879/laws.FnBitsAppended", spec := "fnBitsAppended", apart := false, narrowed := true }
def FnBitsAppendedUptoSaid : Prop := fnBitsAppendedUptoRow.holds Try.pinned (OpenSpec.upto fnBitsAppendedSpec)

/-- 'laws.FnBitDistances', WHERE WHAT IT READS IS OF BULK AT MOST 1048576: true; the input reads as it did. -/
def fnBitDistancesUptoRow : OpenClaim := { program := "ytcpndbdpafkbbaa", sum := "7f35d7470861b41710b2fa113f82388ffd8162ac59f7525e95f359ad4da10eee", func := "loop.example/g00879/laws.FnBitDistances", spec := "fnBitDistances", apart := false, narrowed := true }
def FnBitDistancesUptoSaid : Prop := fnBitDistancesUptoRow.holds Try.pinned (OpenSpec.upto fnBitDistancesSpec)

end Rows
end Go.Proofs.Ytcpndbdpafkbbaa
