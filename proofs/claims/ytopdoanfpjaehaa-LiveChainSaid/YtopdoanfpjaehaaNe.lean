import Derived.Test.YtopdoanfpjaehaaNd
set_option linter.unusedSimpArgs false
set_option linter.unusedVariables false
namespace Go.Proofs.Ytopdoanfpjaehaa
open Go.RowKit

/-! ### proto.Of -/
section
variable {P : Program} {w : World} {ops : Array Oper} {rest : List Oper} {o : Oper} {a : Act} {Q : Exit → Act → World → Prop}
theorem wpList_indexV (hgd : o.guard = none) (t : TypeId) (x i : Operand) (ho : o.op = .index t x i) (vx vi v : Value) (hx : a.eval x = vx) (hi : a.eval i = vi)
    (hr : ∀ w, (Instr.index t vx vi).run P w = .ok v w) (h : wpList P ops Q rest (a.put o.dst v) w) : wpList P ops Q (o :: rest) a w := by
  refine wpList_plain hgd fun K hK => ?_
  have hr2 := hr w
  subst hx
  subst hi
  unfold Oper.wp
  simp only [execOp, ho]
  simp [hr2, Result.andThen]
  exact hK _ _ h
/-- a whole block is written -/
theorem wpList_storeBlk (hgd : o.guard = none) (x v : Operand) (t : TypeId) (hop : o.op = .store t x v) {i0 : TypeInfo} (hi : P.info? t = some i0) (g : Nat) (T : TypeId) (old vs : Array Value)
    (hx : a.eval x = .pointer (some ⟨g, 0, none⟩)) (hv : a.eval v = .agg vs) (hsz : i0.size = vs.size) (hold : old.size = vs.size) (h1 : ∀ y ∈ vs.toList, y.oneCell' = true) (hb : Blk w g T old)
    (hK : ∀ w', Blk w' g T vs → Kept (fun k => k = g) w w' → wpList P ops Q rest (a.put o.dst undef) w') : wpList P ops Q (o :: rest) a w := by
  refine wpList_plain hgd fun K hKK => ?_
  have hst := run_storeCells_at P g 0 T vs.toList 0 old w hb (by rw [Array.length_toList]; omega) h1
  have enew : (old.toList.take (0 + 0) ++ (vs.toList ++ old.toList.drop (0 + 0 + vs.toList.length))).toArray = vs := by
    have : old.toList.drop (0 + 0 + vs.toList.length) = [] := List.drop_eq_nil_of_le (by rw [Array.length_toList, Array.length_toList]; omega)
    rw [this]
    simp
  rw [List.append_assoc, enew] at hst
  have hcv : (a.eval v).cells = vs := by rw [hv]; rfl
  unfold Oper.wp
  simp [execOp, hop, hx, hcv, Instr.storeAt, Instr.sureAddr, storeVar, sizeOf, typeInfo, hi, hst, Result.andThen, hsz]
  exact hKK _ _ (hK _ (setRow_heap w g old vs T (0, 0) hb) ⟨rfl, rfl, rfl, by simp, fun k _ hk => setRow_other w g k _ hk⟩)
end
theorem tabi1 (w : World) : (Instr.index 101 (.agg tabV) (.int .i64 1)).run Try.prog w = .ok (.agg (prL 1)) w := by kernel_rfl
theorem tabi2 (w : World) : (Instr.index 101 (.agg tabV) (.int .i64 2)).run Try.prog w = .ok (.agg (prL 2)) w := by kernel_rfl
theorem tabi3 (w : World) : (Instr.index 101 (.agg tabV) (.int .i64 3)).run Try.prog w = .ok (.agg (prL 3)) w := by kernel_rfl
theorem tabi4 (w : World) : (Instr.index 101 (.agg tabV) (.int .i64 4)).run Try.prog w = .ok (.agg (prL 4)) w := by kernel_rfl
theorem tabi5 (w : World) : (Instr.index 101 (.agg tabV) (.int .i64 5)).run Try.prog w = .ok (.agg (prL 5)) w := by kernel_rfl
theorem tabi6 (w : World) : (Instr.index 101 (.agg tabV) (.int .i64 6)).run Try.prog w = .ok (.agg (prL 6)) w := by kernel_rfl
theorem tabi7 (w : World) : (Instr.index 101 (.agg tabV) (.int .i64 7)).run Try.prog w = .ok (.agg (prL 7)) w := by kernel_rfl
theorem tabi8 (w : World) : (Instr.index 101 (.agg tabV) (.int .i64 8)).run Try.prog w = .ok (.agg (prL 8)) w := by kernel_rfl
theorem tabi9 (w : World) : (Instr.index 101 (.agg tabV) (.int .i64 9)).run Try.prog w = .ok (.agg (prL 9)) w := by kernel_rfl
theorem tabi10 (w : World) : (Instr.index 101 (.agg tabV) (.int .i64 10)).run Try.prog w = .ok (.agg (prL 10)) w := by kernel_rfl
theorem tabi11 (w : World) : (Instr.index 101 (.agg tabV) (.int .i64 11)).run Try.prog w = .ok (.agg (prL 11)) w := by kernel_rfl
theorem tabi12 (w : World) : (Instr.index 101 (.agg tabV) (.int .i64 12)).run Try.prog w = .ok (.agg (prL 12)) w := by kernel_rfl
theorem tabi13 (w : World) : (Instr.index 101 (.agg tabV) (.int .i64 13)).run Try.prog w = .ok (.agg (prL 13)) w := by kernel_rfl
theorem tabi14 (w : World) : (Instr.index 101 (.agg tabV) (.int .i64 14)).run Try.prog w = .ok (.agg (prL 14)) w := by kernel_rfl
theorem tabi15 (w : World) : (Instr.index 101 (.agg tabV) (.int .i64 15)).run Try.prog w = .ok (.agg (prL 15)) w := by kernel_rfl
theorem tabi16 (w : World) : (Instr.index 101 (.agg tabV) (.int .i64 16)).run Try.prog w = .ok (.agg (prL 16)) w := by kernel_rfl
theorem tabi17 (w : World) : (Instr.index 101 (.agg tabV) (.int .i64 17)).run Try.prog w = .ok (.agg (prL 17)) w := by kernel_rfl
theorem tabi18 (w : World) : (Instr.index 101 (.agg tabV) (.int .i64 18)).run Try.prog w = .ok (.agg (prL 18)) w := by kernel_rfl
theorem tabi19 (w : World) : (Instr.index 101 (.agg tabV) (.int .i64 19)).run Try.prog w = .ok (.agg (prL 19)) w := by kernel_rfl
theorem tabi20 (w : World) : (Instr.index 101 (.agg tabV) (.int .i64 20)).run Try.prog w = .ok (.agg (prL 20)) w := by kernel_rfl
theorem tabi21 (w : World) : (Instr.index 101 (.agg tabV) (.int .i64 21)).run Try.prog w = .ok (.agg (prL 21)) w := by kernel_rfl
theorem tabi22 (w : World) : (Instr.index 101 (.agg tabV) (.int .i64 22)).run Try.prog w = .ok (.agg (prL 22)) w := by kernel_rfl
theorem tabi23 (w : World) : (Instr.index 101 (.agg tabV) (.int .i64 23)).run Try.prog w = .ok (.agg (prL 23)) w := by kernel_rfl
theorem tabi24 (w : World) : (Instr.index 101 (.agg tabV) (.int .i64 24)).run Try.prog w = .ok (.agg (prL 24)) w := by kernel_rfl
theorem tabi25 (w : World) : (Instr.index 101 (.agg tabV) (.int .i64 25)).run Try.prog w = .ok (.agg (prL 25)) w := by kernel_rfl
theorem tabi26 (w : World) : (Instr.index 101 (.agg tabV) (.int .i64 26)).run Try.prog w = .ok (.agg (prL 26)) w := by kernel_rfl
theorem tabi27 (w : World) : (Instr.index 101 (.agg tabV) (.int .i64 27)).run Try.prog w = .ok (.agg (prL 27)) w := by kernel_rfl
theorem tabi28 (w : World) : (Instr.index 101 (.agg tabV) (.int .i64 28)).run Try.prog w = .ok (.agg (prL 28)) w := by kernel_rfl
theorem tab_index (n : Int) (h : 1 ≤ n ∧ n ≤ 28) (w : World) : (Instr.index 101 (.agg tabV) (.int .i64 n)).run Try.prog w = .ok (.agg (prL n.toNat)) w := by
  have : n = 1 ∨ n = 2 ∨ n = 3 ∨ n = 4 ∨ n = 5 ∨ n = 6 ∨ n = 7 ∨ n = 8 ∨ n = 9 ∨ n = 10 ∨ n = 11 ∨ n = 12 ∨ n = 13 ∨ n = 14 ∨ n = 15 ∨ n = 16 ∨ n = 17 ∨ n = 18 ∨ n = 19 ∨ n = 20 ∨ n = 21 ∨ n = 22 ∨ n = 23 ∨ n = 24 ∨ n = 25 ∨ n = 26 ∨ n = 27 ∨ n = 28 := by omega
  rcases this with rfl | rfl | rfl | rfl | rfl | rfl | rfl | rfl | rfl | rfl | rfl | rfl | rfl | rfl | rfl | rfl | rfl | rfl | rfl | rfl | rfl | rfl | rfl | rfl | rfl | rfl | rfl | rfl
  · exact tabi1 w
  · exact tabi2 w
  · exact tabi3 w
  · exact tabi4 w
  · exact tabi5 w
  · exact tabi6 w
  · exact tabi7 w
  · exact tabi8 w
  · exact tabi9 w
  · exact tabi10 w
  · exact tabi11 w
  · exact tabi12 w
  · exact tabi13 w
  · exact tabi14 w
  · exact tabi15 w
  · exact tabi16 w
  · exact tabi17 w
  · exact tabi18 w
  · exact tabi19 w
  · exact tabi20 w
  · exact tabi21 w
  · exact tabi22 w
  · exact tabi23 w
  · exact tabi24 w
  · exact tabi25 w
  · exact tabi26 w
  · exact tabi27 w
  · exact tabi28 w
theorem prL_size (n : Nat) : (prL n).size = 10 := by
  unfold prL
  split <;> rfl
theorem prL_one (n : Nat) : ∀ y ∈ (prL n).toList, y.oneCell' = true := by
  have : (prL n).toList.all (fun y => y.oneCell') = true := by
    unfold prL
    split <;> rfl
  exact List.all_eq_true.1 this
theorem prL_out {n : Int} (h : n < 1 ∨ 28 < n) : prL n.toNat = prV .empty 0 0 0 0 0 0 0 false false := by
  unfold prL
  split <;> first | rfl | omega
theorem results_cell_tmp {P : Program} {fn : Func} {p q : Tmp} {ty : TypeId} (h : fn.results = #[.cell p ty, .tmp q]) (tmps : Array Value) (w : World) (g : Nat) (t : TypeId) (cs : Array Value) (fr : Nat × Nat) (d : TypeDesc) (v : Value)
    (hp : tmps.getD p undef = .pointer (some ⟨g, 0, none⟩)) (hq : tmps.getD q undef = v) (hg : w.heap[g]? = some (.cells cs t fr))
    (hu : P.underlying ty = some d) (hd : (match d with | .struct _ | .array _ _ => true | _ => false) = true) (hi : (P.info? ty).map (·.size) = some cs.size) :
    (results fn tmps).run P w = .ok (.tuple #[.agg cs, v]) w := by
  have hp' : tmps[p]?.getD undef = .pointer (some ⟨g, 0, none⟩) := by simpa using hp
  have hq' : tmps[q]?.getD undef = v := by simpa using hq
  simp [results, h, hp', hq', asAddr, run_loadVar_row w g t ty cs fr d hg hu hd hi]
theorem infoPr : (Try.prog.info? 63).map (·.size) = some 10 := by kernel_rfl
def pofE (n : Int) : Int := if n < 1 ∨ 28 < n then 130 else 0
set_option maxHeartbeats 4000000 in
set_option maxRecDepth 100000 in
theorem pOf_any (n : Int) (w : World) : Calls Try.prog 69 #[.int .i64 n] w fun e w' => e = .returned (.tuple #[.agg (prL n.toNat), .int .i64 (pofE n)]) ∧ Kept (fun _ => False) w w' := by
  have HT := Lib.hid ptable_any
  obtain ⟨i0, hi0, hi1⟩ := Option.map_eq_some_iff.1 infoPr
  by_cases h : n < 1 ∨ 28 < n
  case pos =>
    rw [prL_out h, show pofE n = 130 from if_pos h]
    have hd : (decide (n < 1) || decide (28 < n)) = true := by simpa using h
    have hb := Blk.new w 63 (prV .empty 0 0 0 0 0 0 0 false false)
    by_cases h1 : n < 1
    all_goals
      go_enter Try.func69, Try.ntmps69
      go_wp2_with (refine wpList_storeBlk rfl _ _ 63 rfl hi0 w.heap.size 63 _ (prV .empty 0 0 0 0 0 0 0 false false) rfl rfl (by rw [hi1]; rfl) rfl (by intro y hy; simp at hy; rcases hy with rfl | rfl | rfl <;> rfl) hb ?_; intro w2 hb2 hk2)
      refine bodyPost_ret (v := .tuple #[.agg (prV .empty 0 0 0 0 0 0 0 false false), .int .i64 130]) (results_cell_tmp rfl _ _ w.heap.size _ _ (0, 0) _ _ rfl rfl hb2 Try.underlying63 rfl (by kernel_rfl)) rfl ⟨rfl, ?_⟩
      exact ((Kept.refl _ w).alloc _).trans hk2 (fun k hk e => by have e : k = w.heap.size := e; omega)
  case neg =>
    have h1 : 1 ≤ n ∧ n ≤ 28 := by omega
    have HI := Lib.hid (tab_index n h1)
    rw [show pofE n = 0 from if_neg h]
    have hb := Blk.new w 63 (prV .empty 0 0 0 0 0 0 0 false false)
    have hkn : Kept (fun _ => False) w (w.alloc (.cells (prV .empty 0 0 0 0 0 0 0 false false) 63)) := (Kept.refl _ w).alloc _
    go_enter Try.func69, Try.ntmps69
    go_wp2_with fail
    refine (HT.out _).mono ?_
    rintro e w1 ⟨rfl, hk1⟩
    have hb1 := hk1.blk (fun h => h) hb
    go_wp2_with (first
      | (refine wpList_indexV rfl 101 _ _ rfl (.agg tabV) (.int .i64 n) (.agg (prL n.toNat)) rfl rfl HI.out ?_)
      | (refine wpList_storeBlk rfl _ _ 63 rfl hi0 w.heap.size 63 _ (prL n.toNat) rfl rfl (by rw [hi1, prL_size]) (by rw [prL_size]; rfl) (prL_one _) hb1 ?_; intro w2 hb2 hk2))
    refine bodyPost_ret (v := .tuple #[.agg (prL n.toNat), .int .i64 0]) (results_cell_tmp rfl _ _ w.heap.size _ _ (0, 0) _ _ rfl rfl hb2 Try.underlying63 rfl (by rw [prL_size]; exact infoPr)) rfl ⟨rfl, ?_⟩
    exact (hkn.trans hk1 (fun _ _ h => h)).trans hk2 (fun k hk e => by have e : k = w.heap.size := e; omega)

end Go.Proofs.Ytopdoanfpjaehaa
