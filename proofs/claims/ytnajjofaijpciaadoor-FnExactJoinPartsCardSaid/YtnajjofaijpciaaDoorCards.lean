/-
  DERIVED. GIVEN WITH THE SEED: THE CARDS: each row of YtnajjofaijpciaaDoorRows.lean that lists a variable, with what it lists TIED to the program's text (the seventh form; the later family's looks); each row that meets fmt, with fmt's text TOLD by the authors' own Lean function (tested against real Go, not proved from fmt's source: count such statements apart). THE CARD IS WHAT COUNTS. Prove the row's statement (the work); the ties are given (YtnajjofaijpciaaDoorTie.lean); close each card by the builder's one call (the guide's Derived/Test/ToyasCard.lean, 'card_holds'). Laid BY PROGRAM, IN A SANDBOX (cutbox-door.mjs). By AI agents, Wed Nov 11 2026. No macro, syntax, notation, axiom, sorry.
-/
import Derived.Test.YtnajjofaijpciaaDoorRows
import GoSem.ClaimSeven
namespace Go.Proofs.YtnajjofaijpciaaDoor
namespace Rows

/-- THE TIED CARD OF 'laws.FnExactJoinParts'. -/
def fnExactJoinPartsCard : Claim7 := { stood := { row := fnExactJoinPartsRow, standIns := [], harness := (true, "3db0e216d89c47ee75f30ff7bc1a8322266b28856259cdb32b306902a24d9d87"), looks := false }, kinds := [], alts := [], laidByText := true, laidKinds := [.data, .data, .data], laidTests := true, laidLooks := .later }
def FnExactJoinPartsCardSaid : Prop := Claim7.holds Tryd.pinned (.plain (OpenSpec.ofChange fnExactJoinPartsSpec)) fnExactJoinPartsCard

/-- THE SECOND FORM's CARD OF 'laws.FnExactJoinParts'. -/
def fnExactJoinPartsUptoCard : Claim7 := { stood := { row := fnExactJoinPartsUptoRow, standIns := [], harness := (true, "3db0e216d89c47ee75f30ff7bc1a8322266b28856259cdb32b306902a24d9d87"), looks := false }, kinds := [], alts := [], laidByText := true, laidKinds := [.data, .data, .data], laidTests := true, laidLooks := .later }
def FnExactJoinPartsUptoCardSaid : Prop := Claim7.holds Tryd.pinned (.plain (OpenSpec.upto fnExactJoinPartsSpec)) fnExactJoinPartsUptoCard
end Rows
end Go.Proofs.YtnajjofaijpciaaDoor
