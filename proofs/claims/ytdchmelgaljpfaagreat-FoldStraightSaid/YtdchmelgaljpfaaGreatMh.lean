import Derived.Test.YtdchmelgaljpfaaGreatMix
set_option linter.unusedSimpArgs false
set_option linter.unusedVariables false
namespace Go.Proofs.YtdchmelgaljpfaaGreat

/-! ### guarded operations of a mixed region -/
theorem mix_valG {P : Program} {ops : Array Oper} {C : World → Prop} {K : Act → World → Prop} {ks : List Kd} {o : Oper} {l : List Oper} {a : Act} {w : World} (hC : C w) (hw : Region.wanted o (yielded ops a.tmps) = true) (u : Value)
    (hr : ∀ w', C w' → (execOp a.eval o).run P w' = .ok (.value u) w') (h : Mix P ops C K ks l (a.put o.dst u) w) : Mix P ops C K (.l :: ks) (o :: l) a w := by
  refine mix_l1 hC ?_
  unfold wpQuiet
  rw [if_pos hw]
  refine ⟨u, fun w' hw' => ?_, h⟩
  unfold Oper.quietAt
  rw [hr w' hw']
  exact ⟨rfl, rfl⟩
theorem mix_binG {P : Program} {ops : Array Oper} {C : World → Prop} {K : Act → World → Prop} {ks : List Kd} {o : Oper} {l : List Oper} {a : Act} {w : World} (hC : C w) (hw : Region.wanted o (yielded ops a.tmps) = true) (b : BinOp) (t t2 : TypeId) (x y : Operand) (hop : o.op = .binOp b t x y t2) (vx vy u : Value) (hx : a.eval x = vx) (hy : a.eval y = vy)
    (hg : ∀ w', (eqGuard b t x y vx vy).run P w' = .ok () w')
    (hr : ∀ w', (binOp b t vx vy).run P w' = .ok u w') (h : Mix P ops C K ks l (a.put o.dst u) w) : Mix P ops C K (.l :: ks) (o :: l) a w :=
  mix_valG hC hw u (fun w' hw' => by simp [execOp, hop, hx, hy, hg w', hr w', Result.andThen]) h
theorem mix_loadG {P : Program} {ops : Array Oper} {C : World → Prop} {K : Act → World → Prop} {ks : List Kd} {o : Oper} {l : List Oper} {a : Act} {w : World} (hC : C w) (hw : Region.wanted o (yielded ops a.tmps) = true) (t : TypeId) (x : Operand) (hop : o.op = .load t x) (hna : ∀ w, (isAgg t).run P w = .ok false w)
    (ad : Addr) (v : Value) (hx : a.eval x = .pointer (some ad)) (hc : ∀ w', C w' → w'.cell? ad = some v) (h : Mix P ops C K ks l (a.put o.dst v) w) : Mix P ops C K (.l :: ks) (o :: l) a w :=
  mix_valG hC hw v (fun w' hw' => by simp [execOp, hop, hx, Instr.loadAt, Instr.sureAddr, loadVar, hna, hc w' hw', Result.andThen]) h

end Go.Proofs.YtdchmelgaljpfaaGreat
