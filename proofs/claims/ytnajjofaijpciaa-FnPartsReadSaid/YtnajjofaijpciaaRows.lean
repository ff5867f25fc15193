/-
  No cell of these rows narrows 'for every input' (looked for: loops, veiled, ifaces, maps, wideKeys, modest, calm, conditions, laid).
  DERIVED. THE GIVEN ROWS OF THIS SEAT. 5 by the template 'for every input the law returns true; each argument reads behind the call as it read before'; 0 by the template 'total and deterministic' (their statements: YtnajjofaijpciaaTotals.lean).
  GIVEN WITH THE SEED: the statements are not yours to turn. If you find one false, say at which input.
  Laid BY PROGRAM, IN A SANDBOX (cutbox-rows.mjs): the forced cells as the released guide's own fill.sh prints them over the translation 9608412501accec1… (all of the seat's roots in one cut). By AI agents, Wed Nov 11 2026. No macro, syntax, notation, axiom, sorry.
-/
import Derived.Test.YtnajjofaijpciaaChecked
import GoSem.Claim
import GoSem.ClaimJoined
import GoSem.ClaimMapViews
import Derived.JoinedTies
import Derived.KernelRfl
namespace Go.Proofs.Ytnajjofaijpciaa
/- THE CELL 'sum', in the pinned program and in every row, IS THE sha256 OF THE DUMP (.gsa) THAT YtnajjofaijpciaaProg.lean LOADS. Nothing in Lean hashes anything: it is a label: what it is worth is what the hold of that sum in a sandbox is worth. -/
noncomputable def Try.pinned : Pinned := { name := "ytnajjofaijpciaa", sum := "9608412501accec1746d78f7e4d9bf1e8d25719f6bc33fe171d4a6c260fa8c7e", checked := Try.checked }
namespace Rows
def none {H : Type} : Left H := { results := [], args := [] }

/-- 'laws.FnExactReadSegment': WHATEVER THE INPUT: true; the input reads as it did. -/
def fnExactReadSegmentSpec : ChangeSpec := { name := "fnExactReadSegment", fn := fun _ => fun
  | [d1, d2] => { results := [.lit (.bool true)], args := [d1, d2] }
  | _ => none }
def fnExactReadSegmentRow : OpenClaim := { program := "ytnajjofaijpciaa", sum := "9608412501accec1746d78f7e4d9bf1e8d25719f6bc33fe171d4a6c260fa8c7e", func := "loop.example/g00879/laws.FnExactReadSegment", spec := "fnExactReadSegment", unfollowed := true, recurses := true, apart := false }
def FnExactReadSegmentSaid : Prop := fnExactReadSegmentRow.holds Try.pinned (OpenSpec.ofChange fnExactReadSegmentSpec)

/-- ITS FALSE NEIGHBOUR: 'it returns false'. Refute it at one input. -/
def fnExactReadSegmentWrong : ChangeSpec := { name := "fnExactReadSegment", fn := fun _ => fun
  | [d1, d2] => { results := [.lit (.bool false)], args := [d1, d2] }
  | _ => none }
def FnExactReadSegmentWrongFalsely : Prop := fnExactReadSegmentRow.holds Try.pinned (OpenSpec.ofChange fnExactReadSegmentWrong)

/-- 'laws.FnExactPayloadSegments': WHATEVER THE INPUT: true; the input reads as it did. -/
def fnExactPayloadSegmentsSpec : ChangeSpec := { name := "fnExactPayloadSegments", fn := fun _ => fun
  | [d1, d2] => { results := [.lit (.bool true)], args := [d1, d2] }
  | _ => none }
def fnExactPayloadSegmentsRow : OpenClaim := { program := "ytnajjofaijpciaa", sum := "9608412501accec1746d78f7e4d9bf1e8d25719f6bc33fe171d4a6c260fa8c7e", func := "loop.example/g00879/laws.FnExactPayloadSegments", spec := "fnExactPayloadSegments", unfollowed := true, recurses := true, apart := false }
def FnExactPayloadSegmentsSaid : Prop := fnExactPayloadSegmentsRow.holds Try.pinned (OpenSpec.ofChange fnExactPayloadSegmentsSpec)

/-- ITS FALSE NEIGHBOUR: 'it returns false'. Refute it at one input. -/
def fnExactPayloadSegmentsWrong : ChangeSpec := { name := "fnExactPayloadSegments", fn := fun _ => fun
  | [d1, d2] => { results := [.lit (.bool false)], args := [d1, d2] }
  | _ => none }
def FnExactPayloadSegmentsWrongFalsely : Prop := fnExactPayloadSegmentsRow.holds Try.pinned (OpenSpec.ofChange fnExactPayloadSegmentsWrong)

/-- 'laws.FnExactDecodePayload': WHATEVER THE INPUT: true; the input reads as it did. -/
def fnExactDecodePayloadSpec : ChangeSpec := { name := "fnExactDecodePayload", fn := fun _ => fun
  | [d1, d2] => { results := [.lit (.bool true)], args := [d1, d2] }
  | _ => none }
def fnExactDecodePayloadRow : OpenClaim := { program := "ytnajjofaijpciaa", sum := "9608412501accec1746d78f7e4d9bf1e8d25719f6bc33fe171d4a6c260fa8c7e", func := "loop.example/g00879/laws.FnExactDecodePayload", spec := "fnExactDecodePayload", unfollowed := true, recurses := true, apart := false }
def FnExactDecodePayloadSaid : Prop := fnExactDecodePayloadRow.holds Try.pinned (OpenSpec.ofChange fnExactDecodePayloadSpec)

/-- ITS FALSE NEIGHBOUR: 'it returns false'. Refute it at one input. -/
def fnExactDecodePayloadWrong : ChangeSpec := { name := "fnExactDecodePayload", fn := fun _ => fun
  | [d1, d2] => { results := [.lit (.bool false)], args := [d1, d2] }
  | _ => none }
def FnExactDecodePayloadWrongFalsely : Prop := fnExactDecodePayloadRow.holds Try.pinned (OpenSpec.ofChange fnExactDecodePayloadWrong)

/-- 'laws.FnExactDecodePart': WHATEVER THE INPUT: true; the input reads as it did. -/
def fnExactDecodePartSpec : ChangeSpec := { name := "fnExactDecodePart", fn := fun _ => fun
  | [d1, d2] => { results := [.lit (.bool true)], args := [d1, d2] }
  | _ => none }
def fnExactDecodePartRow : OpenClaim := { program := "ytnajjofaijpciaa", sum := "9608412501accec1746d78f7e4d9bf1e8d25719f6bc33fe171d4a6c260fa8c7e", func := "loop.example/g00879/laws.FnExactDecodePart", spec := "fnExactDecodePart", unfollowed := true, recurses := true, apart := false }
def FnExactDecodePartSaid : Prop := fnExactDecodePartRow.holds Try.pinned (OpenSpec.ofChange fnExactDecodePartSpec)

/-- ITS FALSE NEIGHBOUR: 'it returns false'. Refute it at one input. -/
def fnExactDecodePartWrong : ChangeSpec := { name := "fnExactDecodePart", fn := fun _ => fun
  | [d1, d2] => { results := [.lit (.bool false)], args := [d1, d2] }
  | _ => none }
def FnExactDecodePartWrongFalsely : Prop := fnExactDecodePartRow.holds Try.pinned (OpenSpec.ofChange fnExactDecodePartWrong)

/-- 'laws.FnPartsRead': WHATEVER THE INPUT: true; the input reads as it did. -/
def fnPartsReadSpec : ChangeSpec := { name := "fnPartsRead", fn := fun _ => fun
  | [d] => { results := [.lit (.bool true)], args := [d] }
  | _ => none }
def fnPartsReadRow : OpenClaim := { program := "ytnajjofaijpciaa", sum := "9608412501accec1746d78f7e4d9bf1e8d25719f6bc33fe171d4a6c260fa8c7e", func := "loop.example/g00879/laws.FnPartsRead", spec := "fnPartsRead", unfollowed := true, recurses := true, apart := false }
def FnPartsReadSaid : Prop := fnPartsReadRow.holds Try.pinned (OpenSpec.ofChange fnPartsReadSpec)

/-- ITS FALSE NEIGHBOUR: 'it returns false'. Refute it at one input. -/
def fnPartsReadWrong : ChangeSpec := { name := "fnPartsRead", fn := fun _ => fun
  | [d] => { results := [.lit (.bool false)], args := [d] }
  | _ => none }
def FnPartsReadWrongFalsely : Prop := fnPartsReadRow.holds Try.pinned (OpenSpec.ofChange fnPartsReadWrong)

/- THE SECOND FORM. 'bulk': how many values and letters a reading holds, each counted each time it is reached (what is shared counts as often as it is met; a slice's spare places count too). A statement '..UptoSaid' is the law's where the arguments, and the package variables that the reading takes, are together of bulk at most 1048576: NARROWER than '..Said'. Prove '..Said' where nothing that the law and all that it calls make is longer than what came in: it says more and counts as full. Else prove '..UptoSaid'. A law counts once. -/
mutual
def uptoBulk {H : Type} : DataW H → Nat
  | .lit (.string bytes) => bytes.length + 1
  | .lit _ => 1
  | .nil => 1
  | .ptr d => uptoBulk d + 1
  | .slice elems spare => uptoBulkAll elems + uptoBulkAll spare + 1
  | .agg parts => uptoBulkAll parts + 1
  | .iface _ d => uptoBulk d + 1
  | .map entries => uptoBulkEntries entries + 1
  | .held _ => 1
def uptoBulkAll {H : Type} : List (DataW H) → Nat
  | [] => 0
  | d :: r => uptoBulk d + uptoBulkAll r
def uptoBulkEntries {H : Type} : List (Lit × DataW H) → Nat
  | [] => 0
  | x :: r => uptoBulkEntry x + uptoBulkEntries r
def uptoBulkEntry {H : Type} : Lit × DataW H → Nat
  | (.string bytes, d) => bytes.length + uptoBulk d + 1
  | (_, d) => uptoBulk d + 1
 end
def uptoSmall : (H : Type) → List (DataW H) → Bool := fun _ ds => decide (uptoBulkAll ds ≤ 1048576)
def OpenSpec.upto (s : _root_.Go.ChangeSpec) : _root_.Go.OpenSpec := { _root_.Go.OpenSpec.ofChange s with cond := some uptoSmall }

/-- 'laws.FnExactReadSegment', WHERE WHAT IT READS IS OF BULK AT MOST 1048576: true; the input reads as it did. -/
def fnExactReadSegmentUptoRow : OpenClaim := { program := "ytnajjofaijpciaa", sum := "9608412501accec1746d78f7e4d9bf1e8d25719f6bc33fe171d4a6c260fa8c7e", func := "loop.example/g00879/laws.FnExactReadSegment", spec := "fnExactReadSegment", unfollowed := true, recurses := true, apart := false, narrowed := true }
def FnExactReadSegmentUptoSaid : Prop := fnExactReadSegmentUptoRow.holds Try.pinned (OpenSpec.upto fnExactReadSegmentSpec)

/-- 'laws.FnExactPayloadSegments', WHERE WHAT IT READS IS OF BULK AT MOST 1048576: true; the input reads as it did. -/
def fnExactPayloadSegmentsUptoRow : OpenClaim := { program := "ytnajjofaijpciaa", sum := "9608412501accec1746d78f7e4d9bf1e8d25719f6bc33fe171d4a6c260fa8c7e", func := "loop.example/g00879/laws.FnExactPayloadSegments", spec := "fnExactPayloadSegments", unfollowed := true, recurses := true, apart := false, narrowed := true }
def FnExactPayloadSegmentsUptoSaid : Prop := fnExactPayloadSegmentsUptoRow.holds Try.pinned (OpenSpec.upto fnExactPayloadSegmentsSpec)

/-- 'laws.FnExactDecodePayload', WHERE WHAT IT READS IS OF BULK AT MOST 1048576: true; the input reads as it did. -/
def fnExactDecodePayloadUptoRow : OpenClaim := { program := "ytnajjofaijpciaa", sum := "9608412501accec1746d78f7e4d9bf1e8d25719f6bc33fe171d4a6c260fa8c7e", func := "loop.example/g00879/laws.FnExactDecodePayload", spec := "fnExactDecodePayload", unfollowed := true, recurses := true, apart := false, narrowed := true }
def FnExactDecodePayloadUptoSaid : Prop := fnExactDecodePayloadUptoRow.holds Try.pinned (OpenSpec.upto fnExactDecodePayloadSpec)

/-- 'laws.FnExactDecodePart', WHERE WHAT IT READS IS OF BULK AT MOST 1048576: true; the input reads as it did. -/
def fnExactDecodePartUptoRow : OpenClaim := { program := "ytnajjofaijpciaa", sum := "9608412501accec1746d78f7e4d9bf1e8d25719f6bc33fe171d4a6c260fa8c7e", func := "loop.example/g00879/laws.FnExactDecodePart", spec := "fnExactDecodePart", unfollowed := true, recurses := true, apart := false, narrowed := true }
def FnExactDecodePartUptoSaid : Prop := fnExactDecodePartUptoRow.holds Try.pinned (OpenSpec.upto fnExactDecodePartSpec)

/-- 'laws.FnPartsRead', WHERE WHAT IT READS IS OF BULK AT MOST 1048576: true; the input reads as it did. -/
def fnPartsReadUptoRow : OpenClaim := { program := "ytnajjofaijpciaa", sum := "9608412501accec1746d78f7e4d9bf1e8d25719f6bc33fe171d4a6c260fa8c7e", func := "loop.example/g00879/laws.FnPartsRead", spec := "fnPartsRead", unfollowed := true, recurses := true, apart := false, narrowed := true }
def FnPartsReadUptoSaid : Prop := fnPartsReadUptoRow.holds Try.pinned (OpenSpec.upto fnPartsReadSpec)

end Rows
end Go.Proofs.Ytnajjofaijpciaa
