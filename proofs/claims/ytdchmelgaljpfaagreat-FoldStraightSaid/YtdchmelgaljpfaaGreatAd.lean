import Derived.Test.YtdchmelgaljpfaaGreatAb
import Derived.Test.YtdchmelgaljpfaaGreatTree
import Derived.Test.YtdchmelgaljpfaaGreatSg
import Derived.Laws.StructEq
import Derived.ChangeKeysEq
set_option linter.unusedSimpArgs false
set_option linter.unusedVariables false
namespace Go.Proofs.YtdchmelgaljpfaaGreat
open Go.RowKit

/-! ### cells of a block written and read at a place -/
def spliceA (old : Array Value) (off : Nat) (vs : Array Value) : Array Value := (old.toList.take off ++ vs.toList ++ old.toList.drop (off + vs.size)).toArray
section
variable {P : Program} {w : World} {ops : Array Oper} {rest : List Oper} {o : Oper} {a : Act} {Q : Exit → Act → World → Prop}
theorem wpList_storeB (hgd : o.guard = none) (x v : Operand) (t : TypeId) (hop : o.op = .store t x v) {i0 : TypeInfo} (hi : P.info? t = some i0) (g off : Nat) (T : TypeId) (old vs : Array Value)
    (hx : a.eval x = .pointer (some ⟨g, off, none⟩)) (hv : a.eval v = .agg vs) (hsz : i0.size = vs.size) (hold : off + vs.size ≤ old.size) (h1 : ∀ y ∈ vs.toList, y.oneCell' = true) (hb : Blk w g T old)
    (hK : ∀ w', Blk w' g T (spliceA old off vs) → Kept (fun k => k = g) w w' → wpList P ops Q rest (a.put o.dst undef) w') : wpList P ops Q (o :: rest) a w := by
  refine wpList_plain hgd fun K hKK => ?_
  have hst := run_storeCells_at P g off T vs.toList 0 old w hb (by rw [Array.length_toList]; omega) h1
  rw [Nat.add_zero, Array.length_toList] at hst
  have hcv : (a.eval v).cells = vs := by rw [hv]; rfl
  unfold Oper.wp
  simp [execOp, hop, hx, hcv, Instr.storeAt, Instr.sureAddr, storeVar, sizeOf, typeInfo, hi, hst, Result.andThen, hsz]
  refine hKK _ _ (hK _ ?_ ⟨rfl, rfl, rfl, by simp, fun k _ hk => setRow_other w g k _ hk⟩)
  have := setRow_heap w g old (spliceA old off vs) T (0, 0) hb
  unfold spliceA at this ⊢
  unfold Blk
  simpa using this
/-- an operation whose value is known -/
theorem wpList_valA (hgd : o.guard = none) (op : Op) (ho : o.op = op) (v : Value) (hr : ∀ w, (execOp a.eval o).run P w = .ok (.value v) w) (h : wpList P ops Q rest (a.put o.dst v) w) : wpList P ops Q (o :: rest) a w := by
  refine wpList_plain hgd fun K hK => ?_
  unfold Oper.wp
  simp [hr w, Result.andThen]
  exact hK _ _ h
theorem load_agg {t : TypeId} {i0 : TypeInfo} (ha : ∀ w, (isAgg t).run P w = .ok true w) (hi : P.info? t = some i0) (vs : Array Value) (hsz : i0.size = vs.size) (ad : Addr) (w : World) (hc : ∀ (k : Nat) (u : Value), vs[k]? = some u → w.cell? (ad.add k) = some u) : (Instr.loadAt t (.pointer (some ad))).run P w = .ok (.agg vs) w := by
  have hl := run_loadCells_list (P := P) w ad vs.toList (fun j v hv => hc j v (by simpa using hv))
  rw [Array.length_toList] at hl
  simp [Instr.loadAt, Instr.sureAddr, loadVar, ha w, sizeOf, typeInfo, hi, hsz, hl, Result.andThen]
theorem wpList_loadB (hgd : o.guard = none) (x : Operand) (t : TypeId) (hop : o.op = .load t x) {i0 : TypeInfo} (ha : ∀ w, (isAgg t).run P w = .ok true w) (hi : P.info? t = some i0) (vs : Array Value) (hsz : i0.size = vs.size) (ad : Addr) (hx : a.eval x = .pointer (some ad))
    (hc : ∀ (k : Nat) (u : Value), vs[k]? = some u → w.cell? (ad.add k) = some u) (hK : wpList P ops Q rest (a.put o.dst (.agg vs)) w) : wpList P ops Q (o :: rest) a w := by
  refine wpList_plain hgd fun K hKK => ?_
  have hl := load_agg ha hi vs hsz ad w hc
  unfold Oper.wp
  simp [execOp, hop, hx, hl, Result.andThen]
  exact hKK _ _ hK
theorem mix_loadB {C : World → Prop} {K : Act → World → Prop} {ks : List Kd} {l : List Oper} (hC : C w) (hg : o.guard = none) (x : Operand) (t : TypeId) (hop : o.op = .load t x) {i0 : TypeInfo} (ha : ∀ w, (isAgg t).run P w = .ok true w) (hi : P.info? t = some i0) (vs : Array Value) (hsz : i0.size = vs.size)
    (ad : Addr) (hx : a.eval x = .pointer (some ad)) (hc : ∀ w', C w' → ∀ (k : Nat) (u : Value), vs[k]? = some u → w'.cell? (ad.add k) = some u) (h : Mix P ops C K ks l (a.put o.dst (.agg vs)) w) : Mix P ops C K (.l :: ks) (o :: l) a w := by
  refine mix_val1 hC hg (.agg vs) (fun w' hw' => ?_) h
  have hl := load_agg ha hi vs hsz ad w' (hc w' hw')
  simp [execOp, hop, hx, hl, Result.andThen]
end
theorem results_cellA {P : Program} {fn : Func} {p : Tmp} {ty : TypeId} (h : fn.results = #[.cell p ty]) (tmps : Array Value) (w : World) (g : Nat) (t : TypeId) (cs : Array Value) (fr : Nat × Nat) (d : TypeDesc)
    (hp : tmps.getD p undef = .pointer (some ⟨g, 0, none⟩)) (hg : w.heap[g]? = some (.cells cs t fr))
    (hu : P.underlying ty = some d) (hd : (match d with | .struct _ | .array _ _ => true | _ => false) = true) (hi : (P.info? ty).map (·.size) = some cs.size) :
    (results fn tmps).run P w = .ok (.agg cs) w := by
  have hp' : tmps[p]?.getD undef = .pointer (some ⟨g, 0, none⟩) := by simpa using hp
  simp [results, h, hp', asAddr, run_loadVar_row w g t ty cs fr d hg hu hd hi]

/-! ### rows of what is known, in memory -/
def valC : Option Nat → List Value
  | none => [.int .i64 0, .int .u64 0, .int .i64 0, .int .i64 0]
  | some n => [.int .i64 1, .int .u64 n, .int .i64 0, .int .i64 0]
def valA (x : Option Nat) : Array Value := (valC x).toArray
def rowC (R : KR) : List Value := (R.map valC).flatten
def rowA (R : KR) : Array Value := (rowC R).toArray
theorem valC_len (x : Option Nat) : (valC x).length = 4 := by cases x <;> rfl
theorem valC_one (x : Option Nat) : ∀ u ∈ valC x, u.oneCell' = true := by cases x <;> simp [valC, Value.oneCell']
theorem flat_len : ∀ (R : KR), (rowC R).length = R.length * 4
  | [] => rfl
  | x :: R => by
    have := flat_len R
    unfold rowC at this ⊢
    simp only [List.map_cons, List.flatten_cons, List.length_append, valC_len, List.length_cons, this]
    omega
theorem rowA_size (R : KR) : (rowA R).size = R.length * 4 := by unfold rowA; rw [List.size_toArray, flat_len]
theorem rowC_one (R : KR) : ∀ u ∈ rowC R, u.oneCell' = true := fun u hu => by
  unfold rowC at hu
  obtain ⟨c, hc, hu⟩ := List.mem_flatten.1 hu
  obtain ⟨x, _, rfl⟩ := List.mem_map.1 hc
  exact valC_one x u hu
theorem rowC_get : ∀ {R : KR} {i : Nat} {x : Option Nat}, R[i]? = some x → ∀ k, k < 4 → (rowC R)[i * 4 + k]? = (valC x)[k]?
  | [], i, x, h, k, hk => by simp at h
  | y :: R, 0, x, h, k, hk => by
    simp only [List.getElem?_cons_zero, Option.some.injEq] at h
    subst h
    unfold rowC
    simp only [List.map_cons, List.flatten_cons, Nat.zero_mul, Nat.zero_add]
    rw [List.getElem?_append_left (by rw [valC_len]; exact hk)]
  | y :: R, i + 1, x, h, k, hk => by
    have := rowC_get (R := R) (i := i) (x := x) (by simpa using h) k hk
    unfold rowC at this ⊢
    simp only [List.map_cons, List.flatten_cons]
    rw [List.getElem?_append_right (by rw [valC_len]; omega), valC_len, show (i + 1) * 4 + k - 4 = i * 4 + k by omega]
    exact this
theorem rowA_get {R : KR} {i : Nat} {x : Option Nat} (h : R[i]? = some x) (k : Nat) (u : Value) (hu : (valA x)[k]? = some u) : (rowA R)[i * 4 + k]? = some u := by
  have hk : k < 4 := by
    have := (Array.getElem?_eq_some_iff.1 hu).1
    unfold valA at this
    rw [List.size_toArray, valC_len] at this
    exact this
  unfold rowA
  rw [List.getElem?_toArray, rowC_get h k hk]
  unfold valA at hu
  rw [List.getElem?_toArray] at hu
  exact hu
theorem rowA_set {R : KR} {i : Nat} (hi : i < R.length) (x : Option Nat) : spliceA (rowA R) (i * 4) (valA x) = rowA (R.set i x) := by
  have h := flatten_set (css := R.map valC) (sz := 4) (fun c hc => by obtain ⟨y, _, rfl⟩ := List.mem_map.1 hc; exact valC_len y) (i := i) (c := valC x) (by simpa using hi) (valC_len x)
  unfold spliceA rowA rowC valA
  rw [List.map_set, h]
  unfold spliceL
  simp
theorem rowA_part {R : KR} {i : Nat} {x : Option Nat} (h : R[i]? = some x) : (rowA R).extract (i * 4) (i * 4 + 4) = valA x := by
  have hi := (List.getElem?_eq_some_iff.1 h).1
  apply Array.ext_getElem?
  intro k
  rw [Array.getElem?_extract]
  have hsz : (valA x).size = 4 := by unfold valA; rw [List.size_toArray, valC_len]
  have hr := rowA_size R
  by_cases hk : k < 4
  · rw [if_pos (by omega)]
    have hv : (valA x)[k]? = some ((valA x)[k]'(by omega)) := Array.getElem?_eq_getElem (by omega)
    rw [rowA_get h k _ hv, hv]
  · rw [if_neg (by omega), Array.getElem?_eq_none (by omega)]

/-! ### what is known compared -/
theorem infoVal : (Tryz.prog.info? 32).map (·.size) = some 4 := by kernel_rfl
theorem aggVal : ∀ w, (isAgg 32).run Tryz.prog w = .ok true w := fun w => by kernel_rfl
theorem val_eq (x y : Option Nat) (d : Nat) (w : World) : (Op.equalIn (d + 2) 32 (.agg (valA x)) (.agg (valA y))).run Tryz.prog w = .ok (x == y) w := by
  have hS : Tryz.prog.underlying 32 = some (.struct (Tryz.prog.fieldsOf 32)) := by kernel_rfl
  have hp : Tryz.prog.stoodInHeld 32 = false := by kernel_rfl
  rw [show d + 2 = (d + 1) + 1 from rfl, run_equalIn_agg w (d + 1) 32 _ _ hS hp]
  have u0 := Tryz.underlying3
  have a0 := Tryz.isAgg3
  have z0 := Tryz.sizeOf3
  have u1 := Tryz.underlying30
  have a1 := Tryz.isAgg30
  have z1 := Tryz.sizeOf30
  have u2 := Tryz.underlying2
  have a2 := Tryz.isAgg2
  have z2 := Tryz.sizeOf2
  simp only [Program.fieldsOf, Tryz.underlying32]
  cases x with
  | none =>
    cases y with
    | none => unfold valA valC; go_simp
    | some m => unfold valA valC; go_simp
  | some n =>
    cases y with
    | none => unfold valA valC; go_simp
    | some m =>
      unfold valA valC
      go_simp
      by_cases h : n = m
      · subst h; simp
      · rw [if_neg (by omega)]
        simp [h]
@[go_sem] theorem neqVal_run (x y : Option Nat) (w : World) : (binOp .neq 32 (.agg (valA x)) (.agg (valA y))).run Tryz.prog w = .ok (.bool (!(x == y))) w := by
  rw [run_neq_struct, val_eq x y 9998]
  rfl
@[go_sem] theorem guardVal_run (op : BinOp) (a b : Operand) (x y : Array Value) (w : World) : (eqGuard op 32 a b (.agg x) (.agg y)).run Tryz.prog w = .ok () w :=
  run_eqGuard_agg w op _ a b _ _ (by kernel_rfl)
theorem eqItems_rows (R R' : KR) (d : Nat) (w : World) : ∀ (is : List Nat), (∀ i ∈ is, i < R.length ∧ i < R'.length) → (Op.eqItems (d + 2) 32 4 (rowA R) (rowA R') is).run Tryz.prog w = .ok (is.all fun i => R[i]? == R'[i]?) w
  | [], _ => by simp [Op.eqItems]
  | i :: is, h => by
    obtain ⟨h1, h2⟩ := h i (List.mem_cons_self ..)
    have e1 := List.getElem?_eq_getElem h1
    have e2 := List.getElem?_eq_getElem h2
    obtain ⟨i0, hi0, hi1⟩ := Option.map_eq_some_iff.1 infoVal
    have hsz : (sizeOf 32).run Tryz.prog w = .ok 4 w := by simp [sizeOf, typeInfo, hi0, hi1, Result.andThen]
    have hp : ∀ (R : KR) (x : Option Nat), R[i]? = some x → (part 32 (rowA R) (i * 4)).run Tryz.prog w = .ok (.agg (valA x)) w := fun R x hx => by
      have := rowA_part hx
      simp only [part, Sem.run_bind, aggVal w, Result.andThen_ok, if_true, hsz]
      rw [this]
      rfl
    have ih := eqItems_rows R R' d w is (fun j hj => h j (List.mem_cons_of_mem _ hj))
    simp only [Op.eqItems, Sem.run_bind, hp R _ e1, hp R' _ e2, Result.andThen_ok, val_eq]
    rw [List.all_cons, e1, e2]
    by_cases hxy : R[i] = R'[i]
    · simp only [hxy, beq_self_eq_true, Bool.not_true, Bool.false_eq_true, if_false, Bool.true_and]
      exact ih
    · have hb : (R[i] == R'[i]) = false := by simpa using hxy
      have hb2 : (some R[i] == some R'[i]) = false := by simpa using hxy
      simp only [hb, hb2, Bool.not_false, if_true, Bool.false_and]
      rfl
theorem all_rows (R R' : KR) (h : R.length = 11) (h' : R'.length = 11) : ((List.range 11).all fun i => R[i]? == R'[i]?) = decide (R = R') := by
  rw [Bool.eq_iff_iff, decide_eq_true_eq, List.all_eq_true]
  refine ⟨fun hh => ?_, fun e i _ => by rw [e]; simp⟩
  apply List.ext_getElem?
  intro i
  by_cases hi : i < 11
  · simpa using hh i (List.mem_range.2 hi)
  · rw [List.getElem?_eq_none (by omega), List.getElem?_eq_none (by omega)]
theorem row_eqIn (t : TypeId) (hu : Tryz.prog.underlying t = some (.array 11 32)) (R R' : KR) (h : R.length = 11) (h' : R'.length = 11) (d : Nat) (w : World) : (Op.equalIn (d + 3) t (.agg (rowA R)) (.agg (rowA R'))).run Tryz.prog w = .ok (decide (R = R')) w := by
  obtain ⟨i0, hi0, hi1⟩ := Option.map_eq_some_iff.1 infoVal
  have hc : Tryz.prog.cellsOf 32 = 4 := by simp [Program.cellsOf, hi0, hi1]
  rw [show d + 3 = (d + 2) + 1 from rfl, run_equalIn_array w (d + 2) _ _ hu hi0, hc, eqItems_rows R R' d w _ (fun i hi => by have := List.mem_range.1 hi; omega), all_rows R R' h h']
theorem row_eql (t : TypeId) (hu : Tryz.prog.underlying t = some (.array 11 32)) (R R' : KR) (h : R.length = 11) (h' : R'.length = 11) (w : World) : (binOp .eql t (.agg (rowA R)) (.agg (rowA R'))).run Tryz.prog w = .ok (.bool (decide (R = R'))) w := by
  rw [run_eql_struct, row_eqIn t hu R R' h h' 9997]
  rfl
theorem row_neq (t : TypeId) (hu : Tryz.prog.underlying t = some (.array 11 32)) (R R' : KR) (h : R.length = 11) (h' : R'.length = 11) (w : World) : (binOp .neq t (.agg (rowA R)) (.agg (rowA R'))).run Tryz.prog w = .ok (.bool (!decide (R = R'))) w := by
  rw [run_neq_struct, row_eqIn t hu R R' h h' 9997]
  rfl
end Go.Proofs.YtdchmelgaljpfaaGreat
