/-
  No cell of these rows narrows 'for every input' (looked for: loops, veiled, ifaces, maps, wideKeys, modest, calm, conditions, laid).
  DERIVED. THE GIVEN ROWS OF THIS SEAT. 12 by the template 'for every input the law returns true; each argument reads behind the call as it read before'; 0 by the template 'total and deterministic' (their statements: YtagdkaigdehohaaTotals.lean).
  GIVEN WITH THE SEED: the statements are not yours to turn. If you find one false, say at which input.
  Laid BY PROGRAM, IN A SANDBOX (cutbox-rows.mjs): the forced cells as the released guide's own fill.sh prints them over the translation 93ea5255ba39e3b8… (all of the seat's roots in one cut). By AI agents, Wed Nov 11 2026. No macro, syntax, notation, axiom, sorry.
-/
import Derived.Test.YtagdkaigdehohaaChecked
import GoSem.Claim
import GoSem.ClaimJoined
import GoSem.ClaimMapViews
import Derived.JoinedTies
import Derived.KernelRfl
namespace Go.Proofs.Ytagdkaigdehohaa
/- THE CELL 'sum', in the pinned program and in every row, IS THE sha256 OF THE DUMP (.gsa) THAT YtagdkaigdehohaaProg.lean LOADS. Nothing in Lean hashes anything: it is a label: what it is worth is what the hold of that sum in a sandbox is worth. -/
noncomputable def Try.pinned : Pinned := { name := "ytagdkaigdehohaa", sum := "93ea5255ba39e3b8c3174b6817b8719882a3b010f3ef7d262faf993acd48e092", checked := Try.checked }
namespace Rows
def none {H : Type} : Left H := { results := [], args := [] }

/-- 'laws.FnExactMaskTurns': WHATEVER THE INPUT: true; the input reads as it did. -/
def fnExactMaskTurnsSpec : ChangeSpec := { name := "fnExactMaskTurns", fn := fun _ => fun
  | [d1, d2, d3] => { results := [.lit (.bool true)], args := [d1, d2, d3] }
  | _ => none }
def fnExactMaskTurnsRow : OpenClaim := { program := "ytagdkaigdehohaa", sum := "93ea5255ba39e3b8c3174b6817b8719882a3b010f3ef7d262faf993acd48e092", func := "loop.example/g00879/laws.FnExactMaskTurns", spec := "fnExactMaskTurns", unfollowed := true, recurses := true, plainKeys := false, apart := false }
def FnExactMaskTurnsSaid : Prop := fnExactMaskTurnsRow.holds Try.pinned (OpenSpec.ofChange fnExactMaskTurnsSpec)

/-- ITS FALSE NEIGHBOUR: 'it returns false'. Refute it at one input. -/
def fnExactMaskTurnsWrong : ChangeSpec := { name := "fnExactMaskTurns", fn := fun _ => fun
  | [d1, d2, d3] => { results := [.lit (.bool false)], args := [d1, d2, d3] }
  | _ => none }
def FnExactMaskTurnsWrongFalsely : Prop := fnExactMaskTurnsRow.holds Try.pinned (OpenSpec.ofChange fnExactMaskTurnsWrong)

/-- 'laws.FnExactIsGrid': WHATEVER THE INPUT: true; the input reads as it did. -/
def fnExactIsGridSpec : ChangeSpec := { name := "fnExactIsGrid", fn := fun _ => fun
  | [d] => { results := [.lit (.bool true)], args := [d] }
  | _ => none }
def fnExactIsGridRow : OpenClaim := { program := "ytagdkaigdehohaa", sum := "93ea5255ba39e3b8c3174b6817b8719882a3b010f3ef7d262faf993acd48e092", func := "loop.example/g00879/laws.FnExactIsGrid", spec := "fnExactIsGrid", plainKeys := false, apart := false }
def FnExactIsGridSaid : Prop := fnExactIsGridRow.holds Try.pinned (OpenSpec.ofChange fnExactIsGridSpec)

/-- ITS FALSE NEIGHBOUR: 'it returns false'. Refute it at one input. -/
def fnExactIsGridWrong : ChangeSpec := { name := "fnExactIsGrid", fn := fun _ => fun
  | [d] => { results := [.lit (.bool false)], args := [d] }
  | _ => none }
def FnExactIsGridWrongFalsely : Prop := fnExactIsGridRow.holds Try.pinned (OpenSpec.ofChange fnExactIsGridWrong)

/-- 'laws.FnExactCellAt': WHATEVER THE INPUT: true; the input reads as it did. -/
def fnExactCellAtSpec : ChangeSpec := { name := "fnExactCellAt", fn := fun _ => fun
  | [d1, d2, d3] => { results := [.lit (.bool true)], args := [d1, d2, d3] }
  | _ => none }
def fnExactCellAtRow : OpenClaim := { program := "ytagdkaigdehohaa", sum := "93ea5255ba39e3b8c3174b6817b8719882a3b010f3ef7d262faf993acd48e092", func := "loop.example/g00879/laws.FnExactCellAt", spec := "fnExactCellAt", plainKeys := false, apart := false }
def FnExactCellAtSaid : Prop := fnExactCellAtRow.holds Try.pinned (OpenSpec.ofChange fnExactCellAtSpec)

/-- ITS FALSE NEIGHBOUR: 'it returns false'. Refute it at one input. -/
def fnExactCellAtWrong : ChangeSpec := { name := "fnExactCellAt", fn := fun _ => fun
  | [d1, d2, d3] => { results := [.lit (.bool false)], args := [d1, d2, d3] }
  | _ => none }
def FnExactCellAtWrongFalsely : Prop := fnExactCellAtRow.holds Try.pinned (OpenSpec.ofChange fnExactCellAtWrong)

/-- 'laws.FnExactFormatPlaces': WHATEVER THE INPUT: true; the input reads as it did. -/
def fnExactFormatPlacesSpec : ChangeSpec := { name := "fnExactFormatPlaces", fn := fun _ => fun
  | [d] => { results := [.lit (.bool true)], args := [d] }
  | _ => none }
def fnExactFormatPlacesRow : OpenClaim := { program := "ytagdkaigdehohaa", sum := "93ea5255ba39e3b8c3174b6817b8719882a3b010f3ef7d262faf993acd48e092", func := "loop.example/g00879/laws.FnExactFormatPlaces", spec := "fnExactFormatPlaces", plainKeys := false, apart := false }
def FnExactFormatPlacesSaid : Prop := fnExactFormatPlacesRow.holds Try.pinned (OpenSpec.ofChange fnExactFormatPlacesSpec)

/-- ITS FALSE NEIGHBOUR: 'it returns false'. Refute it at one input. -/
def fnExactFormatPlacesWrong : ChangeSpec := { name := "fnExactFormatPlaces", fn := fun _ => fun
  | [d] => { results := [.lit (.bool false)], args := [d] }
  | _ => none }
def FnExactFormatPlacesWrongFalsely : Prop := fnExactFormatPlacesRow.holds Try.pinned (OpenSpec.ofChange fnExactFormatPlacesWrong)

/-- 'laws.FnExactPatternAt': WHATEVER THE INPUT: true; the input reads as it did. -/
def fnExactPatternAtSpec : ChangeSpec := { name := "fnExactPatternAt", fn := fun _ => fun
  | [d] => { results := [.lit (.bool true)], args := [d] }
  | _ => none }
def fnExactPatternAtRow : OpenClaim := { program := "ytagdkaigdehohaa", sum := "93ea5255ba39e3b8c3174b6817b8719882a3b010f3ef7d262faf993acd48e092", func := "loop.example/g00879/laws.FnExactPatternAt", spec := "fnExactPatternAt", unfollowed := true, recurses := true, plainKeys := false, apart := false }
def FnExactPatternAtSaid : Prop := fnExactPatternAtRow.holds Try.pinned (OpenSpec.ofChange fnExactPatternAtSpec)

/-- ITS FALSE NEIGHBOUR: 'it returns false'. Refute it at one input. -/
def fnExactPatternAtWrong : ChangeSpec := { name := "fnExactPatternAt", fn := fun _ => fun
  | [d] => { results := [.lit (.bool false)], args := [d] }
  | _ => none }
def FnExactPatternAtWrongFalsely : Prop := fnExactPatternAtRow.holds Try.pinned (OpenSpec.ofChange fnExactPatternAtWrong)

/-- 'laws.FnExactPatternFor': WHATEVER THE INPUT: true; the input reads as it did. -/
def fnExactPatternForSpec : ChangeSpec := { name := "fnExactPatternFor", fn := fun _ => fun
  | [d1, d2] => { results := [.lit (.bool true)], args := [d1, d2] }
  | _ => none }
def fnExactPatternForRow : OpenClaim := { program := "ytagdkaigdehohaa", sum := "93ea5255ba39e3b8c3174b6817b8719882a3b010f3ef7d262faf993acd48e092", func := "loop.example/g00879/laws.FnExactPatternFor", spec := "fnExactPatternFor", unfollowed := true, recurses := true, plainKeys := false, apart := false }
def FnExactPatternForSaid : Prop := fnExactPatternForRow.holds Try.pinned (OpenSpec.ofChange fnExactPatternForSpec)

/-- ITS FALSE NEIGHBOUR: 'it returns false'. Refute it at one input. -/
def fnExactPatternForWrong : ChangeSpec := { name := "fnExactPatternFor", fn := fun _ => fun
  | [d1, d2] => { results := [.lit (.bool false)], args := [d1, d2] }
  | _ => none }
def FnExactPatternForWrongFalsely : Prop := fnExactPatternForRow.holds Try.pinned (OpenSpec.ofChange fnExactPatternForWrong)

/-- 'laws.FnExactPatternIndex': WHATEVER THE INPUT: true; the input reads as it did. -/
def fnExactPatternIndexSpec : ChangeSpec := { name := "fnExactPatternIndex", fn := fun _ => fun
  | [d] => { results := [.lit (.bool true)], args := [d] }
  | _ => none }
def fnExactPatternIndexRow : OpenClaim := { program := "ytagdkaigdehohaa", sum := "93ea5255ba39e3b8c3174b6817b8719882a3b010f3ef7d262faf993acd48e092", func := "loop.example/g00879/laws.FnExactPatternIndex", spec := "fnExactPatternIndex", unfollowed := true, recurses := true, plainKeys := false, apart := false }
def FnExactPatternIndexSaid : Prop := fnExactPatternIndexRow.holds Try.pinned (OpenSpec.ofChange fnExactPatternIndexSpec)

/-- ITS FALSE NEIGHBOUR: 'it returns false'. Refute it at one input. -/
def fnExactPatternIndexWrong : ChangeSpec := { name := "fnExactPatternIndex", fn := fun _ => fun
  | [d] => { results := [.lit (.bool false)], args := [d] }
  | _ => none }
def FnExactPatternIndexWrongFalsely : Prop := fnExactPatternIndexRow.holds Try.pinned (OpenSpec.ofChange fnExactPatternIndexWrong)

/-- 'laws.FnExactRowCells': WHATEVER THE INPUT: true; the input reads as it did. -/
def fnExactRowCellsSpec : ChangeSpec := { name := "fnExactRowCells", fn := fun _ => fun
  | [d1, d2] => { results := [.lit (.bool true)], args := [d1, d2] }
  | _ => none }
def fnExactRowCellsRow : OpenClaim := { program := "ytagdkaigdehohaa", sum := "93ea5255ba39e3b8c3174b6817b8719882a3b010f3ef7d262faf993acd48e092", func := "loop.example/g00879/laws.FnExactRowCells", spec := "fnExactRowCells", unfollowed := true, recurses := true, plainKeys := false, apart := false }
def FnExactRowCellsSaid : Prop := fnExactRowCellsRow.holds Try.pinned (OpenSpec.ofChange fnExactRowCellsSpec)

/-- ITS FALSE NEIGHBOUR: 'it returns false'. Refute it at one input. -/
def fnExactRowCellsWrong : ChangeSpec := { name := "fnExactRowCells", fn := fun _ => fun
  | [d1, d2] => { results := [.lit (.bool false)], args := [d1, d2] }
  | _ => none }
def FnExactRowCellsWrongFalsely : Prop := fnExactRowCellsRow.holds Try.pinned (OpenSpec.ofChange fnExactRowCellsWrong)

/-- 'laws.FnPatterns': WHATEVER THE INPUT: true; the input reads as it did. -/
def fnPatternsSpec : ChangeSpec := { name := "fnPatterns", fn := fun _ => fun
  | [d] => { results := [.lit (.bool true)], args := [d] }
  | _ => none }
def fnPatternsRow : OpenClaim := { program := "ytagdkaigdehohaa", sum := "93ea5255ba39e3b8c3174b6817b8719882a3b010f3ef7d262faf993acd48e092", func := "loop.example/g00879/laws.FnPatterns", spec := "fnPatterns", unfollowed := true, recurses := true, plainKeys := false, apart := false }
def FnPatternsSaid : Prop := fnPatternsRow.holds Try.pinned (OpenSpec.ofChange fnPatternsSpec)

/-- ITS FALSE NEIGHBOUR: 'it returns false'. Refute it at one input. -/
def fnPatternsWrong : ChangeSpec := { name := "fnPatterns", fn := fun _ => fun
  | [d] => { results := [.lit (.bool false)], args := [d] }
  | _ => none }
def FnPatternsWrongFalsely : Prop := fnPatternsRow.holds Try.pinned (OpenSpec.ofChange fnPatternsWrong)

/-- 'laws.FnBitsAppended': WHATEVER THE INPUT: true; the input reads as it did. -/
def fnBitsAppendedSpec : ChangeSpec := { name := "fnBitsAppended", fn := fun _ => fun
  | [d] => { results := [.lit (.bool true)], args := [d] }
  | _ => none }
def fnBitsAppendedRow : OpenClaim := { program := "ytagdkaigdehohaa", sum := "93ea5255ba39e3b8c3174b6817b8719882a3b010f3ef7d262faf993acd48e092", func := "loop.example/g00879/laws.FnBitsAppended", spec := "fnBitsAppended", plainKeys := false, apart := false }
def FnBitsAppendedSaid : Prop := fnBitsAppendedRow.holds Try.pinned (OpenSpec.ofChange fnBitsAppendedSpec)

/-- ITS FALSE NEIGHBOUR: 'it returns false'. Refute it at one input. -/
def fnBitsAppendedWrong : ChangeSpec := { name := "fnBitsAppended", fn := fun _ => fun
  | [d] => { results := [.lit (.bool false)], args := [d] }
  | _ => none }
def FnBitsAppendedWrongFalsely : Prop := fnBitsAppendedRow.holds Try.pinned (OpenSpec.ofChange fnBitsAppendedWrong)

/-- 'laws.FnBitDistances': WHATEVER THE INPUT: true; the input reads as it did. -/
def fnBitDistancesSpec : ChangeSpec := { name := "fnBitDistances", fn := fun _ => fun
  | [d] => { results := [.lit (.bool true)], args := [d] }
  | _ => none }
def fnBitDistancesRow : OpenClaim := { program := "ytagdkaigdehohaa", sum := "93ea5255ba39e3b8c3174b6817b8719882a3b010f3ef7d262faf993acd48e092", func := "loop.example/g00879/laws.FnBitDistances", spec := "fnBitDistances", plainKeys := false, apart := false }
def FnBitDistancesSaid : Prop := fnBitDistancesRow.holds Try.pinned (OpenSpec.ofChange fnBitDistancesSpec)

/-- ITS FALSE NEIGHBOUR: 'it returns false'. Refute it at one input. -/
def fnBitDistancesWrong : ChangeSpec := { name := "fnBitDistances", fn := fun _ => fun
  | [d] => { results := [.lit (.bool false)], args := [d] }
  | _ => none }
def FnBitDistancesWrongFalsely : Prop := fnBitDistancesRow.holds Try.pinned (OpenSpec.ofChange fnBitDistancesWrong)

/-- 'laws.FnBitsText': WHATEVER THE INPUT: true; the input reads as it did. -/
def fnBitsTextSpec : ChangeSpec := { name := "fnBitsText", fn := fun _ => fun
  | [d] => { results := [.lit (.bool true)], args := [d] }
  | _ => none }
def fnBitsTextRow : OpenClaim := { program := "ytagdkaigdehohaa", sum := "93ea5255ba39e3b8c3174b6817b8719882a3b010f3ef7d262faf993acd48e092", func := "loop.example/g00879/laws.FnBitsText", spec := "fnBitsText", plainKeys := false, apart := false }
def FnBitsTextSaid : Prop := fnBitsTextRow.holds Try.pinned (OpenSpec.ofChange fnBitsTextSpec)

/-- ITS FALSE NEIGHBOUR: 'it returns false'. Refute it at one input. -/
def fnBitsTextWrong : ChangeSpec := { name := "fnBitsText", fn := fun _ => fun
  | [d] => { results := [.lit (.bool false)], args := [d] }
  | _ => none }
def FnBitsTextWrongFalsely : Prop := fnBitsTextRow.holds Try.pinned (OpenSpec.ofChange fnBitsTextWrong)

/- THE SECOND FORM. 'bulk': how many values and letters a reading holds, each counted each time it is reached (what is shared counts as often as it is met; a slice's spare places count too). A statement '..UptoSaid' is the law's where the arguments, and the package variables that the reading takes, are together of bulk at most 1048576: NARROWER than '..Said'. Prove '..Said' where nothing that the law and all that it calls make is longer than what came in: it says more and counts as full. Else prove '..UptoSaid'. A law counts once. -/
mutual
def uptoBulk {H : Type} : DataW H → Nat
  | .lit (.string bytes) => bytes.length + 1
  | .lit _ => 1
  | .nil => 1
  | .ptr d => uptoBulk d + 1
  | .slice elems spare => uptoBulkAll elems + uptoBulkAll spare + 1
  | .agg parts => uptoBulkAll parts + 1
  | .iface _ d => uptoBulk d + 1
  | .map entries => uptoBulkEntries entries + 1
  | .held _ => 1
def uptoBulkAll {H : Type} : List (DataW H) → Nat
  | [] => 0
  | d :: r => uptoBulk d + uptoBulkAll r
def uptoBulkEntries {H : Type} : List (Lit × DataW H) → Nat
  | [] => 0
  | x :: r => uptoBulkEntry x + uptoBulkEntries r
def uptoBulkEntry {H : Type} : Lit × DataW H → Nat
  | (.string bytes, d) => bytes.length + uptoBulk d + 1
  | (_, d) => uptoBulk d + 1
 end
def uptoSmall : (H : Type) → List (DataW H) → Bool := fun _ ds => decide (uptoBulkAll ds ≤ 1048576)
def OpenSpec.upto (s : _root_.Go.ChangeSpec) : _root_.Go.OpenSpec := { _root_.Go.OpenSpec.ofChange s with cond := some uptoSmall }

/-- 'laws.FnExactMaskTurns', WHERE WHAT IT READS IS OF BULK AT MOST 1048576: true; the input reads as it did. -/
def fnExactMaskTurnsUptoRow : OpenClaim := { program := "ytagdkaigdehohaa", sum := "93ea5255ba39e3b8c3174b6817b8719882a3b010f3ef7d262faf993acd48e092", func := "loop.example/g00879/laws.FnExactMaskTurns", spec := "fnExactMaskTurns", unfollowed := true, recurses := true, plainKeys := false, apart := false, narrowed := true }
def FnExactMaskTurnsUptoSaid : Prop := fnExactMaskTurnsUptoRow.holds Try.pinned (OpenSpec.upto fnExactMaskTurnsSpec)

/-- 'laws.FnExactIsGrid', WHERE WHAT IT READS IS OF BULK AT MOST 1048576: true; the input reads as it did. -/
def fnExactIsGridUptoRow : OpenClaim := { program := "ytagdkaigdehohaa", sum := "93ea5255ba39e3b8c3174b6817b8719882a3b010f3ef7d262faf993acd48e092", func := "loop.example/g00879/laws.FnExactIsGrid", spec := "fnExactIsGrid", plainKeys := false, apart := false, narrowed := true }
def FnExactIsGridUptoSaid : Prop := fnExactIsGridUptoRow.holds Try.pinned (OpenSpec.upto fnExactIsGridSpec)

/-- 'laws.FnExactCellAt', WHERE WHAT IT READS IS OF BULK AT MOST 1048576: true; the input reads as it did. -/
def fnExactCellAtUptoRow : OpenClaim := { program := "ytagdkaigdehohaa", sum := "93ea5255ba39e3b8c3174b6817b8719882a3b010f3ef7d262faf993acd48e092", func := "loop.example/g00879/laws.FnExactCellAt", spec := "fnExactCellAt", plainKeys := false, apart := false, narrowed := true }
def FnExactCellAtUptoSaid : Prop := fnExactCellAtUptoRow.holds Try.pinned (OpenSpec.upto fnExactCellAtSpec)

/-- 'laws.FnExactFormatPlaces', WHERE WHAT IT READS IS OF BULK AT MOST 1048576: true; the input reads as it did. -/
def fnExactFormatPlacesUptoRow : OpenClaim := { program := "ytagdkaigdehohaa", sum := "93ea5255ba39e3b8c3174b6817b8719882a3b010f3ef7d262faf993acd48e092", func := "loop.example/g00879/laws.FnExactFormatPlaces", spec := "fnExactFormatPlaces", plainKeys := false, apart := false, narrowed := true }
def FnExactFormatPlacesUptoSaid : Prop := fnExactFormatPlacesUptoRow.holds Try.pinned (OpenSpec.upto fnExactFormatPlacesSpec)

/-- 'laws.FnExactPatternAt', WHERE WHAT IT READS IS OF BULK AT MOST 1048576: true; the input reads as it did. -/
def fnExactPatternAtUptoRow : OpenClaim := { program := "ytagdkaigdehohaa", sum := "93ea5255ba39e3b8c3174b6817b8719882a3b010f3ef7d262faf993acd48e092", func := "loop.example/g00879/laws.FnExactPatternAt", spec := "fnExactPatternAt", unfollowed := true, recurses := true, plainKeys := false, apart := false, narrowed := true }
def FnExactPatternAtUptoSaid : Prop := fnExactPatternAtUptoRow.holds Try.pinned (OpenSpec.upto fnExactPatternAtSpec)

/-- 'laws.FnExactPatternFor', WHERE WHAT IT READS IS OF BULK AT MOST 1048576: true; the input reads as it did. -/
def fnExactPatternForUptoRow : OpenClaim := { program := "ytagdkaigdehohaa", sum := "93ea5255ba39e3b8c3174b6817b8719882a3b010f3ef7d262faf993acd48e092", func := "loop.example/g00879/laws.FnExactPatternFor", spec := "fnExactPatternFor", unfollowed := true, recurses := true, plainKeys := false, apart := false, narrowed := true }
def FnExactPatternForUptoSaid : Prop := fnExactPatternForUptoRow.holds Try.pinned (OpenSpec.upto fnExactPatternForSpec)

/-- 'laws.FnExactPatternIndex', WHERE WHAT IT READS IS OF BULK AT MOST 1048576: true; the input reads as it did. -/
def fnExactPatternIndexUptoRow : OpenClaim := { program := "ytagdkaigdehohaa", sum := "93ea5255ba39e3b8c3174b6817b8719882a3b010f3ef7d262faf993acd48e092", func := "loop.example/g00879/laws.FnExactPatternIndex", spec := "fnExactPatternIndex", unfollowed := true, recurses := true, plainKeys := false, apart := false, narrowed := true }
def FnExactPatternIndexUptoSaid : Prop := fnExactPatternIndexUptoRow.holds Try.pinned (OpenSpec.upto fnExactPatternIndexSpec)

/-- 'laws.FnExactRowCells', WHERE WHAT IT READS IS OF BULK AT MOST 1048576: true; the input reads as it did. -/
def fnExactRowCellsUptoRow : OpenClaim := { program := "ytagdkaigdehohaa", sum := "93ea5255ba39e3b8c3174b6817b8719882a3b010f3ef7d262faf993acd48e092", func := "loop.example/g00879/laws.FnExactRowCells", spec := "fnExactRowCells", unfollowed := true, recurses := true, plainKeys := false, apart := false, narrowed := true }
def FnExactRowCellsUptoSaid : Prop := fnExactRowCellsUptoRow.holds Try.pinned (OpenSpec.upto fnExactRowCellsSpec)

/-- 'laws.FnPatterns', WHERE WHAT IT READS IS OF BULK AT MOST 1048576: true; the input reads as it did. -/
def fnPatternsUptoRow : OpenClaim := { program := "ytagdkaigdehohaa", sum := "93ea5255ba39e3b8c3174b6817b8719882a3b010f3ef7d262faf993acd48e092", func := "loop.example/g00879/laws.FnPatterns", spec := "fnPatterns", unfollowed := true, recurses := true, plainKeys := false, apart := false, narrowed := true }
def FnPatternsUptoSaid : Prop := fnPatternsUptoRow.holds Try.pinned (OpenSpec.upto fnPatternsSpec)

/-- 'laws.FnBitsAppended', WHERE WHAT IT READS IS OF BULK AT MOST 1048576: true; the input reads as it did. -/
def fnBitsAppendedUptoRow : OpenClaim := { program := "ytagdkaigdehohaa", sum := "93ea5255ba39e3b8c3174b6817b8719882a3b010f3ef7d262faf993acd48e092", func := "loop.example/g00879/laws.FnBitsAppended", spec := "fnBitsAppended", plainKeys := false, apart := false, narrowed := true }
def FnBitsAppendedUptoSaid : Prop := fnBitsAppendedUptoRow.holds Try.pinned (OpenSpec.upto fnBitsAppendedSpec)

/-- 'laws.FnBitDistances', WHERE WHAT IT READS IS OF BULK AT MOST 1048576: true; the input reads as it did. -/
def fnBitDistancesUptoRow : OpenClaim := { program := "ytagdkaigdehohaa", sum := "93ea5255ba39e3b8c3174b6817b8719882a3b010f3ef7d262faf993acd48e092", func := "loop.example/g00879/laws.FnBitDistances", spec := "fnBitDistances", plainKeys := false, apart := false, narrowed := true }
def FnBitDistancesUptoSaid : Prop := fnBitDistancesUptoRow.holds Try.pinned (OpenSpec.upto fnBitDistancesSpec)

/-- 'laws.FnBitsText', WHERE WHAT IT READS IS OF BULK AT MOST 1048576: true; the input reads as it did. -/
def fnBitsTextUptoRow : OpenClaim := { program := "ytagdkaigdehohaa", sum := "93ea5255ba39e3b8c3174b6817b8719882a3b010f3ef7d262faf993acd48e092", func := "loop.example/g00879/laws.FnBitsText", spec := "fnBitsText", plainKeys := false, apart := false, narrowed := true }
def FnBitsTextUptoSaid : Prop := fnBitsTextUptoRow.holds Try.pinned (OpenSpec.upto fnBitsTextSpec)

end Rows
end Go.Proofs.Ytagdkaigdehohaa
