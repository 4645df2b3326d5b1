import Derived.Test.YtdchmelgaljpfaaGreatJv
set_option linter.unusedSimpArgs false
set_option linter.unusedVariables false
namespace Go.Proofs.YtdchmelgaljpfaaGreat
open Go.RowKit

/-! ### Subs -/
def subsC (l : List In) : Int := if slotsC l = 0 then endedC l (partsL l) else slotsC l
end Go.Proofs.YtdchmelgaljpfaaGreat
