import Derived.Test.YtdgniibolfahaaaJb
import Derived.Laws.StructEq
set_option linter.unusedSimpArgs false
set_option linter.unusedVariables false
namespace Go.Proofs.Ytdgniibolfahaaa
open Go.RowKit

/-! ### two slots compared -/
def eqIn (x y : In) : Bool := (x.op == y.op) && ((x.dst == y.dst) && ((x.src == y.src) && ((x.off == y.off) && (x.imm == y.imm))))
theorem eqIn_iff (x y : In) : eqIn x y = true ↔ x = y := by
  unfold eqIn
  simp only [Bool.and_eq_true, beq_iff_eq]
  obtain ⟨a, b, c, d, e⟩ := x
  obtain ⟨a', b', c', d', e'⟩ := y
  simp
theorem eqIn_run (x y : In) (w : World) : (Op.equalIn 10000 37 (.agg (inVals x)) (.agg (inVals y))).run Try.prog w = .ok (eqIn x y) w := by
  have hS : Try.prog.underlying 37 = some (.struct (Try.prog.fieldsOf 37)) := by kernel_rfl
  have hp : Try.prog.stoodInHeld 37 = false := by kernel_rfl
  rw [show (10000 : Nat) = 9999 + 1 from rfl, run_equalIn_agg w 9999 37 _ _ hS hp]
  have u0 := Try.underlying5
  have a0 := Try.isAgg5
  have z0 := Try.sizeOf5
  have u1 := Try.underlying35
  have a1 := Try.isAgg35
  have z1 := Try.sizeOf35
  have u2 := Try.underlying21
  have a2 := Try.isAgg21
  have z2 := Try.sizeOf21
  simp only [Program.fieldsOf, Try.underlying37]
  unfold eqIn
  go_simp
  by_cases h1 : x.op = y.op <;> by_cases h2 : x.dst = y.dst <;> by_cases h3 : x.src = y.src <;> by_cases h4 : x.off = y.off <;> by_cases h5 : x.imm = y.imm <;> simp [h1, h2, h3, h4, h5]
@[go_sem] theorem neqIn_run (x y : In) (w : World) : (binOp .neq 37 (.agg (inVals x)) (.agg (inVals y))).run Try.prog w = .ok (.bool (!eqIn x y)) w := by
  rw [run_neq_struct, eqIn_run]
  rfl
@[go_sem] theorem eqlIn_run (x y : In) (w : World) : (binOp .eql 37 (.agg (inVals x)) (.agg (inVals y))).run Try.prog w = .ok (.bool (eqIn x y)) w := by
  rw [run_eql_struct, eqIn_run]
  rfl
@[go_sem] theorem guardIn_run (op : BinOp) (a b : Operand) (x y : In) (w : World) : (eqGuard op 37 a b (.agg (inVals x)) (.agg (inVals y))).run Try.prog w = .ok () w :=
  run_eqGuard_agg w op _ a b _ _ (by kernel_rfl)

end Go.Proofs.Ytdgniibolfahaaa
