import Derived.Test.YtdchmelgaljpfaaGreatJo1
import Derived.Test.YtdchmelgaljpfaaGreatJo2
import Derived.Test.YtdchmelgaljpfaaGreatJo3
import Derived.Test.YtdchmelgaljpfaaGreatJo4
namespace Go.Proofs.YtdchmelgaljpfaaGreat
open Go.RowKit
/-- the document's Known -/
theorem rknown_any (x : In) (w : World) (hx : InOk x) : Calls Tryz.prog 116 #[.agg (inVals x)] w fun e w' => e = .returned (.bool (knownB x)) ∧ Kept (fun _ => False) w w' := by
  have hcl : 0 ≤ clsI x ∧ clsI x ≤ 7 := by unfold clsI; have := hx.op; omega
  rcases (by omega : (clsI x = 0 ∨ clsI x = 1 ∨ clsI x = 3 ∨ clsI x = 2) ∨ (clsI x = 4 ∨ clsI x = 7) ∨ clsI x = 5 ∨ clsI x = 6) with h | h | h | h
  · exact rknown1 x w hx h
  · exact rknown2 x w hx (.inl h)
  · exact rknown3 x w hx (.inl h)
  · exact rknown4 x w hx (.inl h)
end Go.Proofs.YtdchmelgaljpfaaGreat
