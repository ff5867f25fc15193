/-
  Contracts of chapter 1 of the program and of the reference: ranges, bit lists, numbers in bit lists.
  Conditions: named at each contract; they are bounds on lengths.
-/
import Derived.Test.YtnajjofaijpciaaDoorProg
import Derived.Test.YtnajjofaijpciaaDoorBits
import Derived.Test.YtnajjofaijpciaaDoorRange
import Derived.Test.YtnajjofaijpciaaDoorLib
namespace Go.Proofs.YtnajjofaijpciaaDoor
open Go.RowKit Go.G8

end Go.Proofs.YtnajjofaijpciaaDoor
