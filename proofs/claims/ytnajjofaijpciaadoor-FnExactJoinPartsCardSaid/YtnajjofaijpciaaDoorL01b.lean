/-
  Contracts of chapter 1 of the program and of the reference: numbers in bit lists.
  Conditions: named at each contract; they are bounds on lengths.
-/
import Derived.Test.YtnajjofaijpciaaDoorL01a
set_option linter.unusedVariables false
namespace Go.Proofs.YtnajjofaijpciaaDoor
open Go.RowKit Go.G8

end Go.Proofs.YtnajjofaijpciaaDoor
