import Derived.Test.YtahabogjfcdjkaaGreatSo
set_option linter.unusedSimpArgs false
set_option linter.unusedVariables false
namespace Go.Proofs.YtahabogjfcdjkaaGreat
open Go.RowKit

/-! ### guarded readers in a drawing region; string comparison -/
theorem mix_valG {P : Program} {ops : Array Oper} {C : World → Prop} {K : Act → World → Prop} {ks : List Kd} {o : Oper} {l : List Oper} {a : Act} {w : World} (hC : C w) (hw : Region.wanted o (yielded ops a.tmps) = true) (u : Value)
    (hr : ∀ w', C w' → (execOp a.eval o).run P w' = .ok (.value u) w') (h : Mix P ops C K ks l (a.put o.dst u) w) : Mix P ops C K (.l :: ks) (o :: l) a w := by
  refine mix_l1 hC ?_
  unfold wpQuiet
  rw [if_pos hw]
  refine ⟨u, fun w' hw' => ?_, h⟩
  unfold Oper.quietAt
  rw [hr w' hw']
  exact ⟨rfl, rfl⟩
theorem mix_convG {P : Program} {ops : Array Oper} {C : World → Prop} {K : Act → World → Prop} {ks : List Kd} {o : Oper} {l : List Oper} {a : Act} {w : World} (hC : C w) (hw : Region.wanted o (yielded ops a.tmps) = true) (src dst : TypeId) (x : Operand) (hop : o.op = .convert src dst x) (v u : Value) (hx : a.eval x = v)
    (hr : ∀ w', C w' → (convert src dst v).run P w' = .ok u w') (h : Mix P ops C K ks l (a.put o.dst u) w) : Mix P ops C K (.l :: ks) (o :: l) a w :=
  mix_valG hC hw u (fun w' hw' => by simp [execOp, hop, hx, hr w' hw', Result.andThen]) h
theorem mix_binG {P : Program} {ops : Array Oper} {C : World → Prop} {K : Act → World → Prop} {ks : List Kd} {o : Oper} {l : List Oper} {a : Act} {w : World} (hC : C w) (hw : Region.wanted o (yielded ops a.tmps) = true) (b : BinOp) (t t2 : TypeId) (x y : Operand) (hop : o.op = .binOp b t x y t2) (vx vy u : Value) (hx : a.eval x = vx) (hy : a.eval y = vy)
    (hg : ∀ w', (eqGuard b t x y vx vy).run P w' = .ok () w')
    (hr : ∀ w', (binOp b t vx vy).run P w' = .ok u w') (h : Mix P ops C K ks l (a.put o.dst u) w) : Mix P ops C K (.l :: ks) (o :: l) a w :=
  mix_valG hC hw u (fun w' hw' => by simp [execOp, hop, hx, hy, hg w', hr w', Result.andThen]) h
theorem mix_loadG {P : Program} {ops : Array Oper} {C : World → Prop} {K : Act → World → Prop} {ks : List Kd} {o : Oper} {l : List Oper} {a : Act} {w : World} (hC : C w) (hw : Region.wanted o (yielded ops a.tmps) = true) (t : TypeId) (x : Operand) (hop : o.op = .load t x) (hna : ∀ w, (isAgg t).run P w = .ok false w)
    (ad : Addr) (v : Value) (hx : a.eval x = .pointer (some ad)) (hc : ∀ w', C w' → w'.cell? ad = some v) (h : Mix P ops C K ks l (a.put o.dst v) w) : Mix P ops C K (.l :: ks) (o :: l) a w :=
  mix_valG hC hw v (fun w' hw' => by simp [execOp, hop, hx, Instr.loadAt, Instr.sureAddr, loadVar, hna, hc w' hw', Result.andThen]) h

theorem bytesLess_cb : ∀ a b : List UInt8, Op.bytesLess a b = decide (Lib.compareBytes a b < 0)
  | [], [] => rfl
  | [], _ :: _ => rfl
  | _ :: _, [] => rfl
  | a :: x, b :: y => by
    have ih := bytesLess_cb x y
    unfold Op.bytesLess Lib.compareBytes
    by_cases h1 : a < b
    · simp [h1]
    · by_cases h2 : b < a
      · have : a ≠ b := fun e => by subst e; rw [UInt8.lt_iff_toNat_lt] at h2; omega
        simp [h1, h2, this]
      · have : a = b := by
          apply UInt8.toNat_inj.1
          rw [UInt8.lt_iff_toNat_lt] at h1 h2
          omega
        simp [h1, h2, this, ih]
theorem run_geq_sV {P : Program} (t : TypeId) (a b : List UInt8) (w : World) : (binOp .geq t (sV a) (sV b)).run P w = .ok (.bool !(decide (Lib.compareBytes a b < 0))) w := by
  unfold sV
  rw [binOp_string_geq]
  have : ∀ l : List UInt8, (ByteArray.mk l.toArray).toList = l := fun l => by rw [Lib.toList_data]
  rw [this, this, bytesLess_cb]
  rfl
theorem run_neq_sV {P : Program} (t : TypeId) (a b : List UInt8) (w : World) : (binOp .neq t (sV a) (sV b)).run P w = .ok (.bool (a != b)) w := by
  unfold sV
  rw [binOp_string_neq]
  have : ∀ l : List UInt8, (ByteArray.mk l.toArray).toList = l := fun l => by rw [Lib.toList_data]
  rw [this, this]
  rfl

end Go.Proofs.YtahabogjfcdjkaaGreat
