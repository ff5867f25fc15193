/-
  Contracts: the marks of strings in the laws.
  Conditions: numbers from 1 to 10^15.
-/
import Derived.Test.YtnajjofaijpciaaDoorLib
import Derived.Test.YtnajjofaijpciaaDoorL01g
set_option linter.unusedVariables false
namespace Go.Proofs.YtnajjofaijpciaaDoor
open Go.RowKit Go.G8
/-- The decimal digits of a number ahead of a text. -/
def digT : Nat → Nat → ByteArray → ByteArray
  | 0, _, out => out
  | f + 1, n, out => if n = 0 then out else digT f (n / 10) (strOfNums [48 + (n : Int) % 10] ++ out)
def markT (k : Nat) : ByteArray := ⟨#[109]⟩ ++ digT 20 k ⟨#[]⟩
end Go.Proofs.YtnajjofaijpciaaDoor
