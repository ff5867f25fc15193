/-
  No cell of these rows narrows 'for every input' (looked for: loops, veiled, ifaces, maps, wideKeys, modest, calm, conditions, laid).
  DERIVED. THE GIVEN ROWS OF THIS SEAT. 12 by the template 'for every input the law returns true; each argument reads behind the call as it read before'; 0 by the template 'total and deterministic' (their statements: YtkcbkgghcpiboaaTotals.lean).
  GIVEN WITH THE SEED: the statements are not yours to turn. If you find one false, say at which input.
  Laid BY PROGRAM, IN A SANDBOX (cutbox-rows.mjs): the forced cells as the released guide's own fill.sh prints them over the translation 246efe5bbaf66bd2… (all of the seat's roots in one cut). By AI agents, Wed Nov 11 2026. No macro, syntax, notation, axiom, sorry.
-/
import Derived.Test.YtkcbkgghcpiboaaChecked
import GoSem.Claim
import GoSem.ClaimJoined
import GoSem.ClaimMapViews
import Derived.JoinedTies
import Derived.KernelRfl
namespace Go.Proofs.Ytkcbkgghcpiboaa
/- THE CELL 'sum', in the pinned program and in every row, IS THE sha256 OF THE DUMP (.gsa) THAT YtkcbkgghcpiboaaProg.lean LOADS. Nothing in Lean hashes anything: it is a label: what it is worth is what the hold of that sum in a sandbox is worth. -/
noncomputable def Try.pinned : Pinned := { name := "ytkcbkgghcpiboaa", sum := "246efe5bbaf66bd22d5928ee161e9ff34ed352636be39f74e990af6cf1bb0dcd", checked := Try.checked }
namespace Rows
def none {H : Type} : Left H := { results := [], args := [] }

/-- 'laws.FnExactIsField': WHATEVER THE INPUT: true; the input reads as it did. -/
def fnExactIsFieldSpec : ChangeSpec := { name := "fnExactIsField", fn := fun _ => fun
  | [d] => { results := [.lit (.bool true)], args := [d] }
  | _ => none }
def fnExactIsFieldRow : OpenClaim := { program := "ytkcbkgghcpiboaa", sum := "246efe5bbaf66bd22d5928ee161e9ff34ed352636be39f74e990af6cf1bb0dcd", func := "loop.example/g00879/laws.FnExactIsField", spec := "fnExactIsField", unfollowed := true, recurses := true, apart := false }
def FnExactIsFieldSaid : Prop := fnExactIsFieldRow.holds Try.pinned (OpenSpec.ofChange fnExactIsFieldSpec)

/-- ITS FALSE NEIGHBOUR: 'it returns false'. Refute it at one input. -/
def fnExactIsFieldWrong : ChangeSpec := { name := "fnExactIsField", fn := fun _ => fun
  | [d] => { results := [.lit (.bool false)], args := [d] }
  | _ => none }
def FnExactIsFieldWrongFalsely : Prop := fnExactIsFieldRow.holds Try.pinned (OpenSpec.ofChange fnExactIsFieldWrong)

/-- 'laws.FnExactFieldSize': WHATEVER THE INPUT: true; the input reads as it did. -/
def fnExactFieldSizeSpec : ChangeSpec := { name := "fnExactFieldSize", fn := fun _ => fun
  | [d] => { results := [.lit (.bool true)], args := [d] }
  | _ => none }
def fnExactFieldSizeRow : OpenClaim := { program := "ytkcbkgghcpiboaa", sum := "246efe5bbaf66bd22d5928ee161e9ff34ed352636be39f74e990af6cf1bb0dcd", func := "loop.example/g00879/laws.FnExactFieldSize", spec := "fnExactFieldSize", unfollowed := true, recurses := true, apart := false }
def FnExactFieldSizeSaid : Prop := fnExactFieldSizeRow.holds Try.pinned (OpenSpec.ofChange fnExactFieldSizeSpec)

/-- ITS FALSE NEIGHBOUR: 'it returns false'. Refute it at one input. -/
def fnExactFieldSizeWrong : ChangeSpec := { name := "fnExactFieldSize", fn := fun _ => fun
  | [d] => { results := [.lit (.bool false)], args := [d] }
  | _ => none }
def FnExactFieldSizeWrongFalsely : Prop := fnExactFieldSizeRow.holds Try.pinned (OpenSpec.ofChange fnExactFieldSizeWrong)

/-- 'laws.FnExactFieldWidth': WHATEVER THE INPUT: true; the input reads as it did. -/
def fnExactFieldWidthSpec : ChangeSpec := { name := "fnExactFieldWidth", fn := fun _ => fun
  | [d] => { results := [.lit (.bool true)], args := [d] }
  | _ => none }
def fnExactFieldWidthRow : OpenClaim := { program := "ytkcbkgghcpiboaa", sum := "246efe5bbaf66bd22d5928ee161e9ff34ed352636be39f74e990af6cf1bb0dcd", func := "loop.example/g00879/laws.FnExactFieldWidth", spec := "fnExactFieldWidth", unfollowed := true, recurses := true, apart := false }
def FnExactFieldWidthSaid : Prop := fnExactFieldWidthRow.holds Try.pinned (OpenSpec.ofChange fnExactFieldWidthSpec)

/-- ITS FALSE NEIGHBOUR: 'it returns false'. Refute it at one input. -/
def fnExactFieldWidthWrong : ChangeSpec := { name := "fnExactFieldWidth", fn := fun _ => fun
  | [d] => { results := [.lit (.bool false)], args := [d] }
  | _ => none }
def FnExactFieldWidthWrongFalsely : Prop := fnExactFieldWidthRow.holds Try.pinned (OpenSpec.ofChange fnExactFieldWidthWrong)

/-- 'laws.FnExactIsCode': WHATEVER THE INPUT: true; the input reads as it did. -/
def fnExactIsCodeSpec : ChangeSpec := { name := "fnExactIsCode", fn := fun _ => fun
  | [d] => { results := [.lit (.bool true)], args := [d] }
  | _ => none }
def fnExactIsCodeRow : OpenClaim := { program := "ytkcbkgghcpiboaa", sum := "246efe5bbaf66bd22d5928ee161e9ff34ed352636be39f74e990af6cf1bb0dcd", func := "loop.example/g00879/laws.FnExactIsCode", spec := "fnExactIsCode", unfollowed := true, recurses := true, apart := false }
def FnExactIsCodeSaid : Prop := fnExactIsCodeRow.holds Try.pinned (OpenSpec.ofChange fnExactIsCodeSpec)

/-- ITS FALSE NEIGHBOUR: 'it returns false'. Refute it at one input. -/
def fnExactIsCodeWrong : ChangeSpec := { name := "fnExactIsCode", fn := fun _ => fun
  | [d] => { results := [.lit (.bool false)], args := [d] }
  | _ => none }
def FnExactIsCodeWrongFalsely : Prop := fnExactIsCodeRow.holds Try.pinned (OpenSpec.ofChange fnExactIsCodeWrong)

/-- 'laws.FnExactIsWithin': WHATEVER THE INPUT: true; the input reads as it did. -/
def fnExactIsWithinSpec : ChangeSpec := { name := "fnExactIsWithin", fn := fun _ => fun
  | [d1, d2, d3] => { results := [.lit (.bool true)], args := [d1, d2, d3] }
  | _ => none }
def fnExactIsWithinRow : OpenClaim := { program := "ytkcbkgghcpiboaa", sum := "246efe5bbaf66bd22d5928ee161e9ff34ed352636be39f74e990af6cf1bb0dcd", func := "loop.example/g00879/laws.FnExactIsWithin", spec := "fnExactIsWithin", unfollowed := true, recurses := true, apart := false }
def FnExactIsWithinSaid : Prop := fnExactIsWithinRow.holds Try.pinned (OpenSpec.ofChange fnExactIsWithinSpec)

/-- ITS FALSE NEIGHBOUR: 'it returns false'. Refute it at one input. -/
def fnExactIsWithinWrong : ChangeSpec := { name := "fnExactIsWithin", fn := fun _ => fun
  | [d1, d2, d3] => { results := [.lit (.bool false)], args := [d1, d2, d3] }
  | _ => none }
def FnExactIsWithinWrongFalsely : Prop := fnExactIsWithinRow.holds Try.pinned (OpenSpec.ofChange fnExactIsWithinWrong)

/-- 'laws.FnExactIsPolynomial': WHATEVER THE INPUT: true; the input reads as it did. -/
def fnExactIsPolynomialSpec : ChangeSpec := { name := "fnExactIsPolynomial", fn := fun _ => fun
  | [d1, d2] => { results := [.lit (.bool true)], args := [d1, d2] }
  | _ => none }
def fnExactIsPolynomialRow : OpenClaim := { program := "ytkcbkgghcpiboaa", sum := "246efe5bbaf66bd22d5928ee161e9ff34ed352636be39f74e990af6cf1bb0dcd", func := "loop.example/g00879/laws.FnExactIsPolynomial", spec := "fnExactIsPolynomial", unfollowed := true, recurses := true, apart := false }
def FnExactIsPolynomialSaid : Prop := fnExactIsPolynomialRow.holds Try.pinned (OpenSpec.ofChange fnExactIsPolynomialSpec)

/-- ITS FALSE NEIGHBOUR: 'it returns false'. Refute it at one input. -/
def fnExactIsPolynomialWrong : ChangeSpec := { name := "fnExactIsPolynomial", fn := fun _ => fun
  | [d1, d2] => { results := [.lit (.bool false)], args := [d1, d2] }
  | _ => none }
def FnExactIsPolynomialWrongFalsely : Prop := fnExactIsPolynomialRow.holds Try.pinned (OpenSpec.ofChange fnExactIsPolynomialWrong)

/-- 'laws.FnExactFieldOf': WHATEVER THE INPUT: true; the input reads as it did. -/
def fnExactFieldOfSpec : ChangeSpec := { name := "fnExactFieldOf", fn := fun _ => fun
  | [d] => { results := [.lit (.bool true)], args := [d] }
  | _ => none }
def fnExactFieldOfRow : OpenClaim := { program := "ytkcbkgghcpiboaa", sum := "246efe5bbaf66bd22d5928ee161e9ff34ed352636be39f74e990af6cf1bb0dcd", func := "loop.example/g00879/laws.FnExactFieldOf", spec := "fnExactFieldOf", unfollowed := true, recurses := true, apart := false }
def FnExactFieldOfSaid : Prop := fnExactFieldOfRow.holds Try.pinned (OpenSpec.ofChange fnExactFieldOfSpec)

/-- ITS FALSE NEIGHBOUR: 'it returns false'. Refute it at one input. -/
def fnExactFieldOfWrong : ChangeSpec := { name := "fnExactFieldOf", fn := fun _ => fun
  | [d] => { results := [.lit (.bool false)], args := [d] }
  | _ => none }
def FnExactFieldOfWrongFalsely : Prop := fnExactFieldOfRow.holds Try.pinned (OpenSpec.ofChange fnExactFieldOfWrong)

/-- 'laws.FnExactFieldMul': WHATEVER THE INPUT: true; the input reads as it did. -/
def fnExactFieldMulSpec : ChangeSpec := { name := "fnExactFieldMul", fn := fun _ => fun
  | [d1, d2, d3] => { results := [.lit (.bool true)], args := [d1, d2, d3] }
  | _ => none }
def fnExactFieldMulRow : OpenClaim := { program := "ytkcbkgghcpiboaa", sum := "246efe5bbaf66bd22d5928ee161e9ff34ed352636be39f74e990af6cf1bb0dcd", func := "loop.example/g00879/laws.FnExactFieldMul", spec := "fnExactFieldMul", unfollowed := true, recurses := true, apart := false }
def FnExactFieldMulSaid : Prop := fnExactFieldMulRow.holds Try.pinned (OpenSpec.ofChange fnExactFieldMulSpec)

/-- ITS FALSE NEIGHBOUR: 'it returns false'. Refute it at one input. -/
def fnExactFieldMulWrong : ChangeSpec := { name := "fnExactFieldMul", fn := fun _ => fun
  | [d1, d2, d3] => { results := [.lit (.bool false)], args := [d1, d2, d3] }
  | _ => none }
def FnExactFieldMulWrongFalsely : Prop := fnExactFieldMulRow.holds Try.pinned (OpenSpec.ofChange fnExactFieldMulWrong)

/-- 'laws.FnExactFieldNeg': WHATEVER THE INPUT: true; the input reads as it did. -/
def fnExactFieldNegSpec : ChangeSpec := { name := "fnExactFieldNeg", fn := fun _ => fun
  | [d1, d2] => { results := [.lit (.bool true)], args := [d1, d2] }
  | _ => none }
def fnExactFieldNegRow : OpenClaim := { program := "ytkcbkgghcpiboaa", sum := "246efe5bbaf66bd22d5928ee161e9ff34ed352636be39f74e990af6cf1bb0dcd", func := "loop.example/g00879/laws.FnExactFieldNeg", spec := "fnExactFieldNeg", unfollowed := true, recurses := true, apart := false }
def FnExactFieldNegSaid : Prop := fnExactFieldNegRow.holds Try.pinned (OpenSpec.ofChange fnExactFieldNegSpec)

/-- ITS FALSE NEIGHBOUR: 'it returns false'. Refute it at one input. -/
def fnExactFieldNegWrong : ChangeSpec := { name := "fnExactFieldNeg", fn := fun _ => fun
  | [d1, d2] => { results := [.lit (.bool false)], args := [d1, d2] }
  | _ => none }
def FnExactFieldNegWrongFalsely : Prop := fnExactFieldNegRow.holds Try.pinned (OpenSpec.ofChange fnExactFieldNegWrong)

/-- 'laws.FnExactFieldLog': WHATEVER THE INPUT: true; the input reads as it did. -/
def fnExactFieldLogSpec : ChangeSpec := { name := "fnExactFieldLog", fn := fun _ => fun
  | [d1, d2] => { results := [.lit (.bool true)], args := [d1, d2] }
  | _ => none }
def fnExactFieldLogRow : OpenClaim := { program := "ytkcbkgghcpiboaa", sum := "246efe5bbaf66bd22d5928ee161e9ff34ed352636be39f74e990af6cf1bb0dcd", func := "loop.example/g00879/laws.FnExactFieldLog", spec := "fnExactFieldLog", unfollowed := true, recurses := true, apart := false }
def FnExactFieldLogSaid : Prop := fnExactFieldLogRow.holds Try.pinned (OpenSpec.ofChange fnExactFieldLogSpec)

/-- ITS FALSE NEIGHBOUR: 'it returns false'. Refute it at one input. -/
def fnExactFieldLogWrong : ChangeSpec := { name := "fnExactFieldLog", fn := fun _ => fun
  | [d1, d2] => { results := [.lit (.bool false)], args := [d1, d2] }
  | _ => none }
def FnExactFieldLogWrongFalsely : Prop := fnExactFieldLogRow.holds Try.pinned (OpenSpec.ofChange fnExactFieldLogWrong)

/-- 'laws.FnExactFieldInv': WHATEVER THE INPUT: true; the input reads as it did. -/
def fnExactFieldInvSpec : ChangeSpec := { name := "fnExactFieldInv", fn := fun _ => fun
  | [d1, d2] => { results := [.lit (.bool true)], args := [d1, d2] }
  | _ => none }
def fnExactFieldInvRow : OpenClaim := { program := "ytkcbkgghcpiboaa", sum := "246efe5bbaf66bd22d5928ee161e9ff34ed352636be39f74e990af6cf1bb0dcd", func := "loop.example/g00879/laws.FnExactFieldInv", spec := "fnExactFieldInv", unfollowed := true, recurses := true, apart := false }
def FnExactFieldInvSaid : Prop := fnExactFieldInvRow.holds Try.pinned (OpenSpec.ofChange fnExactFieldInvSpec)

/-- ITS FALSE NEIGHBOUR: 'it returns false'. Refute it at one input. -/
def fnExactFieldInvWrong : ChangeSpec := { name := "fnExactFieldInv", fn := fun _ => fun
  | [d1, d2] => { results := [.lit (.bool false)], args := [d1, d2] }
  | _ => none }
def FnExactFieldInvWrongFalsely : Prop := fnExactFieldInvRow.holds Try.pinned (OpenSpec.ofChange fnExactFieldInvWrong)

/-- 'laws.FnExactFieldPow': WHATEVER THE INPUT: true; the input reads as it did. -/
def fnExactFieldPowSpec : ChangeSpec := { name := "fnExactFieldPow", fn := fun _ => fun
  | [d1, d2, d3] => { results := [.lit (.bool true)], args := [d1, d2, d3] }
  | _ => none }
def fnExactFieldPowRow : OpenClaim := { program := "ytkcbkgghcpiboaa", sum := "246efe5bbaf66bd22d5928ee161e9ff34ed352636be39f74e990af6cf1bb0dcd", func := "loop.example/g00879/laws.FnExactFieldPow", spec := "fnExactFieldPow", unfollowed := true, recurses := true, apart := false }
def FnExactFieldPowSaid : Prop := fnExactFieldPowRow.holds Try.pinned (OpenSpec.ofChange fnExactFieldPowSpec)

/-- ITS FALSE NEIGHBOUR: 'it returns false'. Refute it at one input. -/
def fnExactFieldPowWrong : ChangeSpec := { name := "fnExactFieldPow", fn := fun _ => fun
  | [d1, d2, d3] => { results := [.lit (.bool false)], args := [d1, d2, d3] }
  | _ => none }
def FnExactFieldPowWrongFalsely : Prop := fnExactFieldPowRow.holds Try.pinned (OpenSpec.ofChange fnExactFieldPowWrong)

/- THE SECOND FORM. 'bulk': how many values and letters a reading holds, each counted each time it is reached (what is shared counts as often as it is met; a slice's spare places count too). A statement '..UptoSaid' is the law's where the arguments, and the package variables that the reading takes, are together of bulk at most 1048576: NARROWER than '..Said'. Prove '..Said' where nothing that the law and all that it calls make is longer than what came in: it says more and counts as full. Else prove '..UptoSaid'. A law counts once. -/
mutual
def uptoBulk {H : Type} : DataW H → Nat
  | .lit (.string bytes) => bytes.length + 1
  | .lit _ => 1
  | .nil => 1
  | .ptr d => uptoBulk d + 1
  | .slice elems spare => uptoBulkAll elems + uptoBulkAll spare + 1
  | .agg parts => uptoBulkAll parts + 1
  | .iface _ d => uptoBulk d + 1
  | .map entries => uptoBulkEntries entries + 1
  | .held _ => 1
def uptoBulkAll {H : Type} : List (DataW H) → Nat
  | [] => 0
  | d :: r => uptoBulk d + uptoBulkAll r
def uptoBulkEntries {H : Type} : List (Lit × DataW H) → Nat
  | [] => 0
  | x :: r => uptoBulkEntry x + uptoBulkEntries r
def uptoBulkEntry {H : Type} : Lit × DataW H → Nat
  | (.string bytes, d) => bytes.length + uptoBulk d + 1
  | (_, d) => uptoBulk d + 1
 end
def uptoSmall : (H : Type) → List (DataW H) → Bool := fun _ ds => decide (uptoBulkAll ds ≤ 1048576)
def OpenSpec.upto (s : _root_.Go.ChangeSpec) : _root_.Go.OpenSpec := { _root_.Go.OpenSpec.ofChange s with cond := some uptoSmall }

/-- 'laws.FnExactIsField', WHERE WHAT IT READS IS OF BULK AT MOST 1048576: true; the input reads as it did. -/
def fnExactIsFieldUptoRow : OpenClaim := { program := "ytkcbkgghcpiboaa", sum := "246efe5bbaf66bd22d5928ee161e9ff34ed352636be39f74e990af6cf1bb0dcd", func := "loop.example/g00879/laws.FnExactIsField", spec := "fnExactIsField", unfollowed := true, recurses := true, apart := false, narrowed := true }
def FnExactIsFieldUptoSaid : Prop := fnExactIsFieldUptoRow.holds Try.pinned (OpenSpec.upto fnExactIsFieldSpec)

/-- 'laws.FnExactFieldSize', WHERE WHAT IT READS IS OF BULK AT MOST 1048576: true; the input reads as it did. -/
def fnExactFieldSizeUptoRow : OpenClaim := { program := "ytkcbkgghcpiboaa", sum := "246efe5bbaf66bd22d5928ee161e9ff34ed352636be39f74e990af6cf1bb0dcd", func := "loop.example/g00879/laws.FnExactFieldSize", spec := "fnExactFieldSize", unfollowed := true, recurses := true, apart := false, narrowed := true }
def FnExactFieldSizeUptoSaid : Prop := fnExactFieldSizeUptoRow.holds Try.pinned (OpenSpec.upto fnExactFieldSizeSpec)

/-- 'laws.FnExactFieldWidth', WHERE WHAT IT READS IS OF BULK AT MOST 1048576: true; the input reads as it did. -/
def fnExactFieldWidthUptoRow : OpenClaim := { program := "ytkcbkgghcpiboaa", sum := "246efe5bbaf66bd22d5928ee161e9ff34ed352636be39f74e990af6cf1bb0dcd", func := "loop.example/g00879/laws.FnExactFieldWidth", spec := "fnExactFieldWidth", unfollowed := true, recurses := true, apart := false, narrowed := true }
def FnExactFieldWidthUptoSaid : Prop := fnExactFieldWidthUptoRow.holds Try.pinned (OpenSpec.upto fnExactFieldWidthSpec)

/-- 'laws.FnExactIsCode', WHERE WHAT IT READS IS OF BULK AT MOST 1048576: true; the input reads as it did. -/
def fnExactIsCodeUptoRow : OpenClaim := { program := "ytkcbkgghcpiboaa", sum := "246efe5bbaf66bd22d5928ee161e9ff34ed352636be39f74e990af6cf1bb0dcd", func := "loop.example/g00879/laws.FnExactIsCode", spec := "fnExactIsCode", unfollowed := true, recurses := true, apart := false, narrowed := true }
def FnExactIsCodeUptoSaid : Prop := fnExactIsCodeUptoRow.holds Try.pinned (OpenSpec.upto fnExactIsCodeSpec)

/-- 'laws.FnExactIsWithin', WHERE WHAT IT READS IS OF BULK AT MOST 1048576: true; the input reads as it did. -/
def fnExactIsWithinUptoRow : OpenClaim := { program := "ytkcbkgghcpiboaa", sum := "246efe5bbaf66bd22d5928ee161e9ff34ed352636be39f74e990af6cf1bb0dcd", func := "loop.example/g00879/laws.FnExactIsWithin", spec := "fnExactIsWithin", unfollowed := true, recurses := true, apart := false, narrowed := true }
def FnExactIsWithinUptoSaid : Prop := fnExactIsWithinUptoRow.holds Try.pinned (OpenSpec.upto fnExactIsWithinSpec)

/-- 'laws.FnExactIsPolynomial', WHERE WHAT IT READS IS OF BULK AT MOST 1048576: true; the input reads as it did. -/
def fnExactIsPolynomialUptoRow : OpenClaim := { program := "ytkcbkgghcpiboaa", sum := "246efe5bbaf66bd22d5928ee161e9ff34ed352636be39f74e990af6cf1bb0dcd", func := "loop.example/g00879/laws.FnExactIsPolynomial", spec := "fnExactIsPolynomial", unfollowed := true, recurses := true, apart := false, narrowed := true }
def FnExactIsPolynomialUptoSaid : Prop := fnExactIsPolynomialUptoRow.holds Try.pinned (OpenSpec.upto fnExactIsPolynomialSpec)

/-- 'laws.FnExactFieldOf', WHERE WHAT IT READS IS OF BULK AT MOST 1048576: true; the input reads as it did. -/
def fnExactFieldOfUptoRow : OpenClaim := { program := "ytkcbkgghcpiboaa", sum := "246efe5bbaf66bd22d5928ee161e9ff34ed352636be39f74e990af6cf1bb0dcd", func := "loop.example/g00879/laws.FnExactFieldOf", spec := "fnExactFieldOf", unfollowed := true, recurses := true, apart := false, narrowed := true }
def FnExactFieldOfUptoSaid : Prop := fnExactFieldOfUptoRow.holds Try.pinned (OpenSpec.upto fnExactFieldOfSpec)

/-- 'laws.FnExactFieldMul', WHERE WHAT IT READS IS OF BULK AT MOST 1048576: true; the input reads as it did. -/
def fnExactFieldMulUptoRow : OpenClaim := { program := "ytkcbkgghcpiboaa", sum := "246efe5bbaf66bd22d5928ee161e9ff34ed352636be39f74e990af6cf1bb0dcd", func := "loop.example/g00879/laws.FnExactFieldMul", spec := "fnExactFieldMul", unfollowed := true, recurses := true, apart := false, narrowed := true }
def FnExactFieldMulUptoSaid : Prop := fnExactFieldMulUptoRow.holds Try.pinned (OpenSpec.upto fnExactFieldMulSpec)

/-- 'laws.FnExactFieldNeg', WHERE WHAT IT READS IS OF BULK AT MOST 1048576: true; the input reads as it did. -/
def fnExactFieldNegUptoRow : OpenClaim := { program := "ytkcbkgghcpiboaa", sum := "246efe5bbaf66bd22d5928ee161e9ff34ed352636be39f74e990af6cf1bb0dcd", func := "loop.example/g00879/laws.FnExactFieldNeg", spec := "fnExactFieldNeg", unfollowed := true, recurses := true, apart := false, narrowed := true }
def FnExactFieldNegUptoSaid : Prop := fnExactFieldNegUptoRow.holds Try.pinned (OpenSpec.upto fnExactFieldNegSpec)

/-- 'laws.FnExactFieldLog', WHERE WHAT IT READS IS OF BULK AT MOST 1048576: true; the input reads as it did. -/
def fnExactFieldLogUptoRow : OpenClaim := { program := "ytkcbkgghcpiboaa", sum := "246efe5bbaf66bd22d5928ee161e9ff34ed352636be39f74e990af6cf1bb0dcd", func := "loop.example/g00879/laws.FnExactFieldLog", spec := "fnExactFieldLog", unfollowed := true, recurses := true, apart := false, narrowed := true }
def FnExactFieldLogUptoSaid : Prop := fnExactFieldLogUptoRow.holds Try.pinned (OpenSpec.upto fnExactFieldLogSpec)

/-- 'laws.FnExactFieldInv', WHERE WHAT IT READS IS OF BULK AT MOST 1048576: true; the input reads as it did. -/
def fnExactFieldInvUptoRow : OpenClaim := { program := "ytkcbkgghcpiboaa", sum := "246efe5bbaf66bd22d5928ee161e9ff34ed352636be39f74e990af6cf1bb0dcd", func := "loop.example/g00879/laws.FnExactFieldInv", spec := "fnExactFieldInv", unfollowed := true, recurses := true, apart := false, narrowed := true }
def FnExactFieldInvUptoSaid : Prop := fnExactFieldInvUptoRow.holds Try.pinned (OpenSpec.upto fnExactFieldInvSpec)

/-- 'laws.FnExactFieldPow', WHERE WHAT IT READS IS OF BULK AT MOST 1048576: true; the input reads as it did. -/
def fnExactFieldPowUptoRow : OpenClaim := { program := "ytkcbkgghcpiboaa", sum := "246efe5bbaf66bd22d5928ee161e9ff34ed352636be39f74e990af6cf1bb0dcd", func := "loop.example/g00879/laws.FnExactFieldPow", spec := "fnExactFieldPow", unfollowed := true, recurses := true, apart := false, narrowed := true }
def FnExactFieldPowUptoSaid : Prop := fnExactFieldPowUptoRow.holds Try.pinned (OpenSpec.upto fnExactFieldPowSpec)

end Rows
end Go.Proofs.Ytkcbkgghcpiboaa
