import Derived.Test.YtdchmelgaljpfaaGreatJs
import Derived.Test.YtdchmelgaljpfaaGreatJm
import Derived.Outline
import Derived.Deep.DeepCutAuto
import Derived.Deep.CutBlock
set_option linter.unusedSimpArgs false
set_option linter.unusedVariables false
namespace Go.Proofs.YtdchmelgaljpfaaGreat
open Go.RowKit

/-! ### the document's and the program's slots -/
/-! ### where subprograms begin -/
end Go.Proofs.YtdchmelgaljpfaaGreat
set_option linter.unusedSimpArgs false
set_option linter.unusedVariables false
namespace Go.Proofs.YtdchmelgaljpfaaGreat
open Go.RowKit

/-! ### Starts -/
theorem known_of {l : List In} (hz : slotsC l = 0) {i : Nat} {x : In} (hx : l[i]? = some x) (hs : (secL l)[i]? = some false) : knownB x = true := by
  obtain ⟨_, _, h⟩ := slots_zero hz
  have hw := h i (List.getElem?_eq_some_iff.1 hx).1
  rw [slot_wrong hx hs] at hw
  exact (wrong_rest hw).1
end Go.Proofs.YtdchmelgaljpfaaGreat
