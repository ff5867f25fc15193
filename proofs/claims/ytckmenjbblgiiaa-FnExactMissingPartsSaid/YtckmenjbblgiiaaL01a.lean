/-
  Contracts of chapter 1 of the program and of the reference: ranges, bit lists, numbers in bit lists.
  Conditions: named at each contract; they are bounds on lengths.
-/
import Derived.Test.YtckmenjbblgiiaaProg
import Derived.Test.YtckmenjbblgiiaaBits
import Derived.Test.YtckmenjbblgiiaaRange
import Derived.Test.YtckmenjbblgiiaaLib
namespace Go.Proofs.Ytckmenjbblgiiaa
open Go.RowKit Go.G8

end Go.Proofs.Ytckmenjbblgiiaa
