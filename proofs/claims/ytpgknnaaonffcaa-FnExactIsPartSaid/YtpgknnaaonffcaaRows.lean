/-
  No cell of these rows narrows 'for every input' (looked for: loops, veiled, ifaces, maps, wideKeys, modest, calm, conditions, laid).
  DERIVED. THE GIVEN ROWS OF THIS SEAT. 12 by the template 'for every input the law returns true; each argument reads behind the call as it read before'; 0 by the template 'total and deterministic' (their statements: YtpgknnaaonffcaaTotals.lean).
  GIVEN WITH THE SEED: the statements are not yours to turn. If you find one false, say at which input.
  Laid BY PROGRAM, IN A SANDBOX (cutbox-rows.mjs): the forced cells as the released guide's own fill.sh prints them over the translation c8ab4c492a7489fb… (all of the seat's roots in one cut). By AI agents, Wed Nov 11 2026. No macro, syntax, notation, axiom, sorry.
-/
import Derived.Test.YtpgknnaaonffcaaChecked
import GoSem.Claim
import GoSem.ClaimJoined
import GoSem.ClaimMapViews
import Derived.JoinedTies
import Derived.KernelRfl
namespace Go.Proofs.Ytpgknnaaonffcaa
/- THE CELL 'sum', in the pinned program and in every row, IS THE sha256 OF THE DUMP (.gsa) THAT YtpgknnaaonffcaaProg.lean LOADS. Nothing in Lean hashes anything: it is a label: what it is worth is what the hold of that sum in a sandbox is worth. -/
noncomputable def Try.pinned : Pinned := { name := "ytpgknnaaonffcaa", sum := "c8ab4c492a7489fba671739b04febbd7cd7cae810eafa71c38126a1f080b980c", checked := Try.checked }
namespace Rows
def none {H : Type} : Left H := { results := [], args := [] }

/-- 'laws.FnExactConstants': WHATEVER THE INPUT: true; the input reads as it did. -/
def fnExactConstantsSpec : ChangeSpec := { name := "fnExactConstants", fn := fun _ => fun
  | [] => { results := [.lit (.bool true)], args := [] }
  | _ => none }
def fnExactConstantsRow : OpenClaim := { program := "ytpgknnaaonffcaa", sum := "c8ab4c492a7489fba671739b04febbd7cd7cae810eafa71c38126a1f080b980c", func := "loop.example/g00879/laws.FnExactConstants", spec := "fnExactConstants", apart := false }
def FnExactConstantsSaid : Prop := fnExactConstantsRow.holds Try.pinned (OpenSpec.ofChange fnExactConstantsSpec)

/-- ITS FALSE NEIGHBOUR: 'it returns false'. Refute it at one input. -/
def fnExactConstantsWrong : ChangeSpec := { name := "fnExactConstants", fn := fun _ => fun
  | [] => { results := [.lit (.bool false)], args := [] }
  | _ => none }
def FnExactConstantsWrongFalsely : Prop := fnExactConstantsRow.holds Try.pinned (OpenSpec.ofChange fnExactConstantsWrong)

/-- 'laws.FnExactMessageParity': WHATEVER THE INPUT: true; the input reads as it did. -/
def fnExactMessageParitySpec : ChangeSpec := { name := "fnExactMessageParity", fn := fun _ => fun
  | [d] => { results := [.lit (.bool true)], args := [d] }
  | _ => none }
def fnExactMessageParityRow : OpenClaim := { program := "ytpgknnaaonffcaa", sum := "c8ab4c492a7489fba671739b04febbd7cd7cae810eafa71c38126a1f080b980c", func := "loop.example/g00879/laws.FnExactMessageParity", spec := "fnExactMessageParity", apart := false }
def FnExactMessageParitySaid : Prop := fnExactMessageParityRow.holds Try.pinned (OpenSpec.ofChange fnExactMessageParitySpec)

/-- ITS FALSE NEIGHBOUR: 'it returns false'. Refute it at one input. -/
def fnExactMessageParityWrong : ChangeSpec := { name := "fnExactMessageParity", fn := fun _ => fun
  | [d] => { results := [.lit (.bool false)], args := [d] }
  | _ => none }
def FnExactMessageParityWrongFalsely : Prop := fnExactMessageParityRow.holds Try.pinned (OpenSpec.ofChange fnExactMessageParityWrong)

/-- 'laws.FnExactStandardFormat': WHATEVER THE INPUT: true; the input reads as it did. -/
def fnExactStandardFormatSpec : ChangeSpec := { name := "fnExactStandardFormat", fn := fun _ => fun
  | [] => { results := [.lit (.bool true)], args := [] }
  | _ => none }
def fnExactStandardFormatRow : OpenClaim := { program := "ytpgknnaaonffcaa", sum := "c8ab4c492a7489fba671739b04febbd7cd7cae810eafa71c38126a1f080b980c", func := "loop.example/g00879/laws.FnExactStandardFormat", spec := "fnExactStandardFormat", apart := false }
def FnExactStandardFormatSaid : Prop := fnExactStandardFormatRow.holds Try.pinned (OpenSpec.ofChange fnExactStandardFormatSpec)

/-- ITS FALSE NEIGHBOUR: 'it returns false'. Refute it at one input. -/
def fnExactStandardFormatWrong : ChangeSpec := { name := "fnExactStandardFormat", fn := fun _ => fun
  | [] => { results := [.lit (.bool false)], args := [] }
  | _ => none }
def FnExactStandardFormatWrongFalsely : Prop := fnExactStandardFormatRow.holds Try.pinned (OpenSpec.ofChange fnExactStandardFormatWrong)

/-- 'laws.FnExactModeName': WHATEVER THE INPUT: true; the input reads as it did. -/
def fnExactModeNameSpec : ChangeSpec := { name := "fnExactModeName", fn := fun _ => fun
  | [d] => { results := [.lit (.bool true)], args := [d] }
  | _ => none }
def fnExactModeNameRow : OpenClaim := { program := "ytpgknnaaonffcaa", sum := "c8ab4c492a7489fba671739b04febbd7cd7cae810eafa71c38126a1f080b980c", func := "loop.example/g00879/laws.FnExactModeName", spec := "fnExactModeName", apart := false }
def FnExactModeNameSaid : Prop := fnExactModeNameRow.holds Try.pinned (OpenSpec.ofChange fnExactModeNameSpec)

/-- ITS FALSE NEIGHBOUR: 'it returns false'. Refute it at one input. -/
def fnExactModeNameWrong : ChangeSpec := { name := "fnExactModeName", fn := fun _ => fun
  | [d] => { results := [.lit (.bool false)], args := [d] }
  | _ => none }
def FnExactModeNameWrongFalsely : Prop := fnExactModeNameRow.holds Try.pinned (OpenSpec.ofChange fnExactModeNameWrong)

/-- 'laws.FnExactIsFormatCode': WHATEVER THE INPUT: true; the input reads as it did. -/
def fnExactIsFormatCodeSpec : ChangeSpec := { name := "fnExactIsFormatCode", fn := fun _ => fun
  | [d] => { results := [.lit (.bool true)], args := [d] }
  | _ => none }
def fnExactIsFormatCodeRow : OpenClaim := { program := "ytpgknnaaonffcaa", sum := "c8ab4c492a7489fba671739b04febbd7cd7cae810eafa71c38126a1f080b980c", func := "loop.example/g00879/laws.FnExactIsFormatCode", spec := "fnExactIsFormatCode", apart := false }
def FnExactIsFormatCodeSaid : Prop := fnExactIsFormatCodeRow.holds Try.pinned (OpenSpec.ofChange fnExactIsFormatCodeSpec)

/-- ITS FALSE NEIGHBOUR: 'it returns false'. Refute it at one input. -/
def fnExactIsFormatCodeWrong : ChangeSpec := { name := "fnExactIsFormatCode", fn := fun _ => fun
  | [d] => { results := [.lit (.bool false)], args := [d] }
  | _ => none }
def FnExactIsFormatCodeWrongFalsely : Prop := fnExactIsFormatCodeRow.holds Try.pinned (OpenSpec.ofChange fnExactIsFormatCodeWrong)

/-- 'laws.FnExactIsPart': WHATEVER THE INPUT: true; the input reads as it did. -/
def fnExactIsPartSpec : ChangeSpec := { name := "fnExactIsPart", fn := fun _ => fun
  | [d] => { results := [.lit (.bool true)], args := [d] }
  | _ => none }
def fnExactIsPartRow : OpenClaim := { program := "ytpgknnaaonffcaa", sum := "c8ab4c492a7489fba671739b04febbd7cd7cae810eafa71c38126a1f080b980c", func := "loop.example/g00879/laws.FnExactIsPart", spec := "fnExactIsPart", apart := false }
def FnExactIsPartSaid : Prop := fnExactIsPartRow.holds Try.pinned (OpenSpec.ofChange fnExactIsPartSpec)

/-- ITS FALSE NEIGHBOUR: 'it returns false'. Refute it at one input. -/
def fnExactIsPartWrong : ChangeSpec := { name := "fnExactIsPart", fn := fun _ => fun
  | [d] => { results := [.lit (.bool false)], args := [d] }
  | _ => none }
def FnExactIsPartWrongFalsely : Prop := fnExactIsPartRow.holds Try.pinned (OpenSpec.ofChange fnExactIsPartWrong)

/-- 'laws.FnExactMaskTurns': WHATEVER THE INPUT: true; the input reads as it did. -/
def fnExactMaskTurnsSpec : ChangeSpec := { name := "fnExactMaskTurns", fn := fun _ => fun
  | [d1, d2, d3] => { results := [.lit (.bool true)], args := [d1, d2, d3] }
  | _ => none }
def fnExactMaskTurnsRow : OpenClaim := { program := "ytpgknnaaonffcaa", sum := "c8ab4c492a7489fba671739b04febbd7cd7cae810eafa71c38126a1f080b980c", func := "loop.example/g00879/laws.FnExactMaskTurns", spec := "fnExactMaskTurns", unfollowed := true, recurses := true, apart := false }
def FnExactMaskTurnsSaid : Prop := fnExactMaskTurnsRow.holds Try.pinned (OpenSpec.ofChange fnExactMaskTurnsSpec)

/-- ITS FALSE NEIGHBOUR: 'it returns false'. Refute it at one input. -/
def fnExactMaskTurnsWrong : ChangeSpec := { name := "fnExactMaskTurns", fn := fun _ => fun
  | [d1, d2, d3] => { results := [.lit (.bool false)], args := [d1, d2, d3] }
  | _ => none }
def FnExactMaskTurnsWrongFalsely : Prop := fnExactMaskTurnsRow.holds Try.pinned (OpenSpec.ofChange fnExactMaskTurnsWrong)

/-- 'laws.FnExactIsGrid': WHATEVER THE INPUT: true; the input reads as it did. -/
def fnExactIsGridSpec : ChangeSpec := { name := "fnExactIsGrid", fn := fun _ => fun
  | [d] => { results := [.lit (.bool true)], args := [d] }
  | _ => none }
def fnExactIsGridRow : OpenClaim := { program := "ytpgknnaaonffcaa", sum := "c8ab4c492a7489fba671739b04febbd7cd7cae810eafa71c38126a1f080b980c", func := "loop.example/g00879/laws.FnExactIsGrid", spec := "fnExactIsGrid", apart := false }
def FnExactIsGridSaid : Prop := fnExactIsGridRow.holds Try.pinned (OpenSpec.ofChange fnExactIsGridSpec)

/-- ITS FALSE NEIGHBOUR: 'it returns false'. Refute it at one input. -/
def fnExactIsGridWrong : ChangeSpec := { name := "fnExactIsGrid", fn := fun _ => fun
  | [d] => { results := [.lit (.bool false)], args := [d] }
  | _ => none }
def FnExactIsGridWrongFalsely : Prop := fnExactIsGridRow.holds Try.pinned (OpenSpec.ofChange fnExactIsGridWrong)

/-- 'laws.FnExactCellAt': WHATEVER THE INPUT: true; the input reads as it did. -/
def fnExactCellAtSpec : ChangeSpec := { name := "fnExactCellAt", fn := fun _ => fun
  | [d1, d2, d3] => { results := [.lit (.bool true)], args := [d1, d2, d3] }
  | _ => none }
def fnExactCellAtRow : OpenClaim := { program := "ytpgknnaaonffcaa", sum := "c8ab4c492a7489fba671739b04febbd7cd7cae810eafa71c38126a1f080b980c", func := "loop.example/g00879/laws.FnExactCellAt", spec := "fnExactCellAt", apart := false }
def FnExactCellAtSaid : Prop := fnExactCellAtRow.holds Try.pinned (OpenSpec.ofChange fnExactCellAtSpec)

/-- ITS FALSE NEIGHBOUR: 'it returns false'. Refute it at one input. -/
def fnExactCellAtWrong : ChangeSpec := { name := "fnExactCellAt", fn := fun _ => fun
  | [d1, d2, d3] => { results := [.lit (.bool false)], args := [d1, d2, d3] }
  | _ => none }
def FnExactCellAtWrongFalsely : Prop := fnExactCellAtRow.holds Try.pinned (OpenSpec.ofChange fnExactCellAtWrong)

/-- 'laws.FnExactFormatPlaces': WHATEVER THE INPUT: true; the input reads as it did. -/
def fnExactFormatPlacesSpec : ChangeSpec := { name := "fnExactFormatPlaces", fn := fun _ => fun
  | [d] => { results := [.lit (.bool true)], args := [d] }
  | _ => none }
def fnExactFormatPlacesRow : OpenClaim := { program := "ytpgknnaaonffcaa", sum := "c8ab4c492a7489fba671739b04febbd7cd7cae810eafa71c38126a1f080b980c", func := "loop.example/g00879/laws.FnExactFormatPlaces", spec := "fnExactFormatPlaces", apart := false }
def FnExactFormatPlacesSaid : Prop := fnExactFormatPlacesRow.holds Try.pinned (OpenSpec.ofChange fnExactFormatPlacesSpec)

/-- ITS FALSE NEIGHBOUR: 'it returns false'. Refute it at one input. -/
def fnExactFormatPlacesWrong : ChangeSpec := { name := "fnExactFormatPlaces", fn := fun _ => fun
  | [d] => { results := [.lit (.bool false)], args := [d] }
  | _ => none }
def FnExactFormatPlacesWrongFalsely : Prop := fnExactFormatPlacesRow.holds Try.pinned (OpenSpec.ofChange fnExactFormatPlacesWrong)

/-- 'laws.FnBitsText': WHATEVER THE INPUT: true; the input reads as it did. -/
def fnBitsTextSpec : ChangeSpec := { name := "fnBitsText", fn := fun _ => fun
  | [d] => { results := [.lit (.bool true)], args := [d] }
  | _ => none }
def fnBitsTextRow : OpenClaim := { program := "ytpgknnaaonffcaa", sum := "c8ab4c492a7489fba671739b04febbd7cd7cae810eafa71c38126a1f080b980c", func := "loop.example/g00879/laws.FnBitsText", spec := "fnBitsText", apart := false }
def FnBitsTextSaid : Prop := fnBitsTextRow.holds Try.pinned (OpenSpec.ofChange fnBitsTextSpec)

/-- ITS FALSE NEIGHBOUR: 'it returns false'. Refute it at one input. -/
def fnBitsTextWrong : ChangeSpec := { name := "fnBitsText", fn := fun _ => fun
  | [d] => { results := [.lit (.bool false)], args := [d] }
  | _ => none }
def FnBitsTextWrongFalsely : Prop := fnBitsTextRow.holds Try.pinned (OpenSpec.ofChange fnBitsTextWrong)

/-- 'laws.FnExactMissingParts': WHATEVER THE INPUT: true; the input reads as it did. -/
def fnExactMissingPartsSpec : ChangeSpec := { name := "fnExactMissingParts", fn := fun _ => fun
  | [d] => { results := [.lit (.bool true)], args := [d] }
  | _ => none }
def fnExactMissingPartsRow : OpenClaim := { program := "ytpgknnaaonffcaa", sum := "c8ab4c492a7489fba671739b04febbd7cd7cae810eafa71c38126a1f080b980c", func := "loop.example/g00879/laws.FnExactMissingParts", spec := "fnExactMissingParts", apart := false }
def FnExactMissingPartsSaid : Prop := fnExactMissingPartsRow.holds Try.pinned (OpenSpec.ofChange fnExactMissingPartsSpec)

/-- ITS FALSE NEIGHBOUR: 'it returns false'. Refute it at one input. -/
def fnExactMissingPartsWrong : ChangeSpec := { name := "fnExactMissingParts", fn := fun _ => fun
  | [d] => { results := [.lit (.bool false)], args := [d] }
  | _ => none }
def FnExactMissingPartsWrongFalsely : Prop := fnExactMissingPartsRow.holds Try.pinned (OpenSpec.ofChange fnExactMissingPartsWrong)

/- THE SECOND FORM. 'bulk': how many values and letters a reading holds, each counted each time it is reached (what is shared counts as often as it is met; a slice's spare places count too). A statement '..UptoSaid' is the law's where the arguments, and the package variables that the reading takes, are together of bulk at most 1048576: NARROWER than '..Said'. Prove '..Said' where nothing that the law and all that it calls make is longer than what came in: it says more and counts as full. Else prove '..UptoSaid'. A law counts once. -/
mutual
def uptoBulk {H : Type} : DataW H → Nat
  | .lit (.string bytes) => bytes.length + 1
  | .lit _ => 1
  | .nil => 1
  | .ptr d => uptoBulk d + 1
  | .slice elems spare => uptoBulkAll elems + uptoBulkAll spare + 1
  | .agg parts => uptoBulkAll parts + 1
  | .iface _ d => uptoBulk d + 1
  | .map entries => uptoBulkEntries entries + 1
  | .held _ => 1
def uptoBulkAll {H : Type} : List (DataW H) → Nat
  | [] => 0
  | d :: r => uptoBulk d + uptoBulkAll r
def uptoBulkEntries {H : Type} : List (Lit × DataW H) → Nat
  | [] => 0
  | x :: r => uptoBulkEntry x + uptoBulkEntries r
def uptoBulkEntry {H : Type} : Lit × DataW H → Nat
  | (.string bytes, d) => bytes.length + uptoBulk d + 1
  | (_, d) => uptoBulk d + 1
 end
def uptoSmall : (H : Type) → List (DataW H) → Bool := fun _ ds => decide (uptoBulkAll ds ≤ 1048576)
def OpenSpec.upto (s : _root_.Go.ChangeSpec) : _root_.Go.OpenSpec := { _root_.Go.OpenSpec.ofChange s with cond := some uptoSmall }

/-- 'laws.FnExactConstants', WHERE WHAT IT READS IS OF BULK AT MOST 1048576: true; the input reads as it did. -/
def fnExactConstantsUptoRow : OpenClaim := { program := "ytpgknnaaonffcaa", sum := "c8ab4c492a7489fba671739b04febbd7cd7cae810eafa71c38126a1f080b980c", func := "loop.example/g00879/laws.FnExactConstants", spec := "fnExactConstants", apart := false, narrowed := true }
def FnExactConstantsUptoSaid : Prop := fnExactConstantsUptoRow.holds Try.pinned (OpenSpec.upto fnExactConstantsSpec)

/-- 'laws.FnExactMessageParity', WHERE WHAT IT READS IS OF BULK AT MOST 1048576: true; the input reads as it did. -/
def fnExactMessageParityUptoRow : OpenClaim := { program := "ytpgknnaaonffcaa", sum := "c8ab4c492a7489fba671739b04febbd7cd7cae810eafa71c38126a1f080b980c", func := "loop.example/g00879/laws.FnExactMessageParity", spec := "fnExactMessageParity", apart := false, narrowed := true }
def FnExactMessageParityUptoSaid : Prop := fnExactMessageParityUptoRow.holds Try.pinned (OpenSpec.upto fnExactMessageParitySpec)

/-- 'laws.FnExactStandardFormat', WHERE WHAT IT READS IS OF BULK AT MOST 1048576: true; the input reads as it did. -/
def fnExactStandardFormatUptoRow : OpenClaim := { program := "ytpgknnaaonffcaa", sum := "c8ab4c492a7489fba671739b04febbd7cd7cae810eafa71c38126a1f080b980c", func := "loop.example/g00879/laws.FnExactStandardFormat", spec := "fnExactStandardFormat", apart := false, narrowed := true }
def FnExactStandardFormatUptoSaid : Prop := fnExactStandardFormatUptoRow.holds Try.pinned (OpenSpec.upto fnExactStandardFormatSpec)

/-- 'laws.FnExactModeName', WHERE WHAT IT READS IS OF BULK AT MOST 1048576: true; the input reads as it did. -/
def fnExactModeNameUptoRow : OpenClaim := { program := "ytpgknnaaonffcaa", sum := "c8ab4c492a7489fba671739b04febbd7cd7cae810eafa71c38126a1f080b980c", func := "loop.example/g00879/laws.FnExactModeName", spec := "fnExactModeName", apart := false, narrowed := true }
def FnExactModeNameUptoSaid : Prop := fnExactModeNameUptoRow.holds Try.pinned (OpenSpec.upto fnExactModeNameSpec)

/-- 'laws.FnExactIsFormatCode', WHERE WHAT IT READS IS OF BULK AT MOST 1048576: true; the input reads as it did. -/
def fnExactIsFormatCodeUptoRow : OpenClaim := { program := "ytpgknnaaonffcaa", sum := "c8ab4c492a7489fba671739b04febbd7cd7cae810eafa71c38126a1f080b980c", func := "loop.example/g00879/laws.FnExactIsFormatCode", spec := "fnExactIsFormatCode", apart := false, narrowed := true }
def FnExactIsFormatCodeUptoSaid : Prop := fnExactIsFormatCodeUptoRow.holds Try.pinned (OpenSpec.upto fnExactIsFormatCodeSpec)

/-- 'laws.FnExactIsPart', WHERE WHAT IT READS IS OF BULK AT MOST 1048576: true; the input reads as it did. -/
def fnExactIsPartUptoRow : OpenClaim := { program := "ytpgknnaaonffcaa", sum := "c8ab4c492a7489fba671739b04febbd7cd7cae810eafa71c38126a1f080b980c", func := "loop.example/g00879/laws.FnExactIsPart", spec := "fnExactIsPart", apart := false, narrowed := true }
def FnExactIsPartUptoSaid : Prop := fnExactIsPartUptoRow.holds Try.pinned (OpenSpec.upto fnExactIsPartSpec)

/-- 'laws.FnExactMaskTurns', WHERE WHAT IT READS IS OF BULK AT MOST 1048576: true; the input reads as it did. -/
def fnExactMaskTurnsUptoRow : OpenClaim := { program := "ytpgknnaaonffcaa", sum := "c8ab4c492a7489fba671739b04febbd7cd7cae810eafa71c38126a1f080b980c", func := "loop.example/g00879/laws.FnExactMaskTurns", spec := "fnExactMaskTurns", unfollowed := true, recurses := true, apart := false, narrowed := true }
def FnExactMaskTurnsUptoSaid : Prop := fnExactMaskTurnsUptoRow.holds Try.pinned (OpenSpec.upto fnExactMaskTurnsSpec)

/-- 'laws.FnExactIsGrid', WHERE WHAT IT READS IS OF BULK AT MOST 1048576: true; the input reads as it did. -/
def fnExactIsGridUptoRow : OpenClaim := { program := "ytpgknnaaonffcaa", sum := "c8ab4c492a7489fba671739b04febbd7cd7cae810eafa71c38126a1f080b980c", func := "loop.example/g00879/laws.FnExactIsGrid", spec := "fnExactIsGrid", apart := false, narrowed := true }
def FnExactIsGridUptoSaid : Prop := fnExactIsGridUptoRow.holds Try.pinned (OpenSpec.upto fnExactIsGridSpec)

/-- 'laws.FnExactCellAt', WHERE WHAT IT READS IS OF BULK AT MOST 1048576: true; the input reads as it did. -/
def fnExactCellAtUptoRow : OpenClaim := { program := "ytpgknnaaonffcaa", sum := "c8ab4c492a7489fba671739b04febbd7cd7cae810eafa71c38126a1f080b980c", func := "loop.example/g00879/laws.FnExactCellAt", spec := "fnExactCellAt", apart := false, narrowed := true }
def FnExactCellAtUptoSaid : Prop := fnExactCellAtUptoRow.holds Try.pinned (OpenSpec.upto fnExactCellAtSpec)

/-- 'laws.FnExactFormatPlaces', WHERE WHAT IT READS IS OF BULK AT MOST 1048576: true; the input reads as it did. -/
def fnExactFormatPlacesUptoRow : OpenClaim := { program := "ytpgknnaaonffcaa", sum := "c8ab4c492a7489fba671739b04febbd7cd7cae810eafa71c38126a1f080b980c", func := "loop.example/g00879/laws.FnExactFormatPlaces", spec := "fnExactFormatPlaces", apart := false, narrowed := true }
def FnExactFormatPlacesUptoSaid : Prop := fnExactFormatPlacesUptoRow.holds Try.pinned (OpenSpec.upto fnExactFormatPlacesSpec)

/-- 'laws.FnBitsText', WHERE WHAT IT READS IS OF BULK AT MOST 1048576: true; the input reads as it did. -/
def fnBitsTextUptoRow : OpenClaim := { program := "ytpgknnaaonffcaa", sum := "c8ab4c492a7489fba671739b04febbd7cd7cae810eafa71c38126a1f080b980c", func := "loop.example/g00879/laws.FnBitsText", spec := "fnBitsText", apart := false, narrowed := true }
def FnBitsTextUptoSaid : Prop := fnBitsTextUptoRow.holds Try.pinned (OpenSpec.upto fnBitsTextSpec)

/-- 'laws.FnExactMissingParts', WHERE WHAT IT READS IS OF BULK AT MOST 1048576: true; the input reads as it did. -/
def fnExactMissingPartsUptoRow : OpenClaim := { program := "ytpgknnaaonffcaa", sum := "c8ab4c492a7489fba671739b04febbd7cd7cae810eafa71c38126a1f080b980c", func := "loop.example/g00879/laws.FnExactMissingParts", spec := "fnExactMissingParts", apart := false, narrowed := true }
def FnExactMissingPartsUptoSaid : Prop := fnExactMissingPartsUptoRow.holds Try.pinned (OpenSpec.upto fnExactMissingPartsSpec)

end Rows
end Go.Proofs.Ytpgknnaaonffcaa
