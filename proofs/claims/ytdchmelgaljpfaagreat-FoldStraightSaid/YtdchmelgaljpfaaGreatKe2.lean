import Derived.Test.YtdchmelgaljpfaaGreatJb
import Derived.Laws.StructEq
set_option linter.unusedSimpArgs false
set_option linter.unusedVariables false
namespace Go.Proofs.YtdchmelgaljpfaaGreat
open Go.RowKit

/-! ### two slots compared -/
def eqIn (x y : In) : Bool := (x.op == y.op) && ((x.dst == y.dst) && ((x.src == y.src) && ((x.off == y.off) && (x.imm == y.imm))))
theorem eqIn_iff (x y : In) : eqIn x y = true ↔ x = y := by
  unfold eqIn
  simp only [Bool.and_eq_true, beq_iff_eq]
  obtain ⟨a, b, c, d, e⟩ := x
  obtain ⟨a', b', c', d', e'⟩ := y
  simp
theorem eqIn_run (x y : In) (w : World) : (Op.equalIn 10000 75 (.agg (inVals x)) (.agg (inVals y))).run Tryz.prog w = .ok (eqIn x y) w := by
  have hS : Tryz.prog.underlying 75 = some (.struct (Tryz.prog.fieldsOf 75)) := by kernel_rfl
  have hp : Tryz.prog.stoodInHeld 75 = false := by kernel_rfl
  rw [show (10000 : Nat) = 9999 + 1 from rfl, run_equalIn_agg w 9999 75 _ _ hS hp]
  have u0 := Tryz.underlying5
  have a0 := Tryz.isAgg5
  have z0 := Tryz.sizeOf5
  have u1 := Tryz.underlying73
  have a1 := Tryz.isAgg73
  have z1 := Tryz.sizeOf73
  have u2 := Tryz.underlying21
  have a2 := Tryz.isAgg21
  have z2 := Tryz.sizeOf21
  simp only [Program.fieldsOf, Tryz.underlying75]
  unfold eqIn
  go_simp
  by_cases h1 : x.op = y.op <;> by_cases h2 : x.dst = y.dst <;> by_cases h3 : x.src = y.src <;> by_cases h4 : x.off = y.off <;> by_cases h5 : x.imm = y.imm <;> simp [h1, h2, h3, h4, h5]
@[go_sem] theorem neqIn_run (x y : In) (w : World) : (binOp .neq 75 (.agg (inVals x)) (.agg (inVals y))).run Tryz.prog w = .ok (.bool (!eqIn x y)) w := by
  rw [run_neq_struct, eqIn_run]
  rfl
@[go_sem] theorem guardIn_run (op : BinOp) (a b : Operand) (x y : In) (w : World) : (eqGuard op 75 a b (.agg (inVals x)) (.agg (inVals y))).run Tryz.prog w = .ok () w :=
  run_eqGuard_agg w op _ a b _ _ (by kernel_rfl)

end Go.Proofs.YtdchmelgaljpfaaGreat
