import Derived.Test.YtdchmelgaljpfaaGreatJm
set_option linter.unusedSimpArgs false
set_option linter.unusedVariables false
namespace Go.Proofs.YtdchmelgaljpfaaGreat
open Go.RowKit

/-! ### the document's kinds of slots -/
def isR (x : In) (k : Int) : Bool := (clsI x == 5) && (codeI x == k)
def toR (n : Nat) (i b : Int) : Int := if i + 1 + b < 0 then -1 else if (n : Int) ≤ i + 1 + b then -1 else i + 1 + b
end Go.Proofs.YtdchmelgaljpfaaGreat
