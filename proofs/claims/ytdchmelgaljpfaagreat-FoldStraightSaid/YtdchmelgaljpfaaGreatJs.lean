import Derived.Test.YtdchmelgaljpfaaGreatJp
set_option linter.unusedSimpArgs false
set_option linter.unusedVariables false
namespace Go.Proofs.YtdchmelgaljpfaaGreat
open Go.RowKit

/-! ### the subprogram of a slot -/
def inP (p : Pt2) (t : Int) : Bool := decide (p.1 ≤ t) && decide (t < p.2)
def ofS (P : List Pt2) (t : Int) : Nat → Nat → Int
  | _, 0 => -1
  | i, n + 1 => if (P[i]?.map (fun p => inP p t)).getD false = true then (i : Int) else ofS P t (i + 1) n
def ofC (P : List Pt2) (t : Int) : Int := ofS P t 0 P.length
end Go.Proofs.YtdchmelgaljpfaaGreat
set_option linter.unusedSimpArgs false
set_option linter.unusedVariables false
namespace Go.Proofs.YtdchmelgaljpfaaGreat
open Go.RowKit

/-! ### of what is known both say the same -/
theorem isR8 {x : In} (h : InOk x) (hk : knownB x = true) : isR x 8 = (x.op == 133) := by
  have hop := h.op
  by_cases h1 : x.op = 133
  · unfold isR clsI codeI
    rw [h1]
    rfl
  by_cases h2 : x.op = 141
  · exfalso
    unfold knownB jumpB wholeJ clsI codeI xB at hk
    rw [h2] at hk
    simp at hk
  · have e1 : isR x 8 = false := by
      unfold isR clsI codeI
      rw [Bool.eq_false_iff]
      simp
      omega
    rw [e1]
    symm
    simpa using h1
theorem isR9 {x : In} (h : InOk x) (hk : knownB x = true) : isR x 9 = (x.op == 149) := by
  have hop := h.op
  by_cases h1 : x.op = 149
  · unfold isR clsI codeI
    rw [h1]
    rfl
  by_cases h2 : x.op = 157
  · exfalso
    unfold knownB jumpB wholeJ clsI codeI xB at hk
    rw [h2] at hk
    simp at hk
  · have e1 : isR x 9 = false := by
      unfold isR clsI codeI
      rw [Bool.eq_false_iff]
      simp
      omega
    rw [e1]
    symm
    simpa using h1
end Go.Proofs.YtdchmelgaljpfaaGreat
