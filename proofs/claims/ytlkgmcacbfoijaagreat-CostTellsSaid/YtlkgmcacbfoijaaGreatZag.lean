import Derived.Test.YtlkgmcacbfoijaaGreatSgx
import Derived.Test.YtlkgmcacbfoijaaGreatMh
import Derived.Test.YtlkgmcacbfoijaaGreatTree
import Derived.Outline
import Derived.Deep.LoopGhost
import Derived.OwnWalk
import Derived.Laws.BitsAllLaws
set_option linter.unusedSimpArgs false
set_option linter.unusedVariables false
namespace Go.Proofs.YtlkgmcacbfoijaaGreat
open Go.RowKit

def icell' (x : Int) : List Value := [.int .i64 x]
theorem infoI : (Tryz.prog.info? 3).map (fun i => (i.zero, i.size, i.bytes)) = some (some (.int .i64 0), 1, 8) := by kernel_rfl
/-! ### rows of integers, and of truths, that a call owns -/
def tcell (b : Bool) : List Value := [.bool b]
abbrev Ints (w : World) (v : Value) (L : List Int) : Prop := Sl w 3 1 v (L.map icell')
abbrev Bls (w : World) (v : Value) (B : List Bool) : Prop := Sl w 4 1 v (B.map tcell)
theorem infoB : (Tryz.prog.info? 4).map (fun i => (i.zero, i.size, i.bytes)) = some (some (.bool false), 1, 1) := by kernel_rfl
theorem ints_flat (L : List Int) : (L.map icell').flatten = L.map (.int .i64) := by
  induction L with
  | nil => rfl
  | cons x r ih => simp only [List.map_cons, List.flatten_cons, ih]; rfl
theorem Ints.cell {w : World} {g n cap : Nat} {L : List Int} (h : Ints w (.slice (some ⟨g, 0, none⟩) n cap) L) {i : Nat} {x : Int} (hi : L[i]? = some x) : w.cell? ⟨g, i, none⟩ = some (.int .i64 x) := by
  have := Sl.cell h (i := i) (c := icell' x) (by rw [List.getElem?_map, hi]; rfl) (k := 0) (by omega)
  simpa [icell'] using this
theorem Bls.cell {w : World} {g n cap : Nat} {L : List Bool} (h : Bls w (.slice (some ⟨g, 0, none⟩) n cap) L) {i : Nat} {x : Bool} (hi : L[i]? = some x) : w.cell? ⟨g, i, none⟩ = some (.bool x) := by
  have := Sl.cell h (i := i) (c := tcell x) (by rw [List.getElem?_map, hi]; rfl) (k := 0) (by omega)
  simpa [tcell] using this
theorem Ints.set {w : World} {g n cap : Nat} {L : List Int} (h : Ints w (.slice (some ⟨g, 0, none⟩) n cap) L) {i : Nat} (hi : i < L.length) (x : Int) : Ints (w.setCell ⟨g, i, none⟩ (.int .i64 x)) (.slice (some ⟨g, 0, none⟩) n cap) (L.set i x) := by
  have := Sl.setCell h (i := i) (c := icell' L[i]) (by rw [List.getElem?_map, List.getElem?_eq_getElem hi]; rfl) (k := 0) (by omega) (.int .i64 x)
  simp only [icell', List.set_cons_zero, Nat.mul_one, Nat.add_zero] at this
  unfold Ints
  rw [List.map_set]
  exact this
theorem Bls.set {w : World} {g n cap : Nat} {L : List Bool} (h : Bls w (.slice (some ⟨g, 0, none⟩) n cap) L) {i : Nat} (hi : i < L.length) (x : Bool) : Bls (w.setCell ⟨g, i, none⟩ (.bool x)) (.slice (some ⟨g, 0, none⟩) n cap) (L.set i x) := by
  have := Sl.setCell h (i := i) (c := tcell L[i]) (by rw [List.getElem?_map, List.getElem?_eq_getElem hi]; rfl) (k := 0) (by omega) (.bool x)
  simp only [tcell, List.set_cons_zero, Nat.mul_one, Nat.add_zero] at this
  unfold Bls
  rw [List.map_set]
  exact this
theorem Ints.lt {w : World} {g n cap : Nat} {L : List Int} (h : Ints w (.slice (some ⟨g, 0, none⟩) n cap) L) : g < w.heap.size := Sl.lt h g rfl
theorem Ints.pop {w : World} {g n cap : Nat} {L : List Int} {x : Int} (h : Ints w (.slice (some ⟨g, 0, none⟩) n cap) (L ++ [x])) : Ints w (.slice (some ⟨g, 0, none⟩) L.length cap) L := by
  unfold Ints at h
  rw [List.map_append] at h
  have := Sl.pre (c := icell' x) h
  simpa using this

section
variable {P : Program} {w : World} {ops : Array Oper} {rest : List Oper} {o : Oper} {a : Act} {Q : Exit → Act → World → Prop}
/-- 'make([]T, n)', T of one cell -/
theorem wpList_makeSl (hgd : o.guard = none) (l c : Operand) (t : TypeId) (hop : o.op = Op.makeSlice t l c) {E : TypeId}
    {i0 : TypeInfo} (z : Value) (hz1 : z.cells = #[z]) {by_ : Nat} (ht : P.underlying t = some (.slice E)) (hi : P.info? E = some i0) (hz : i0.zero = some z) (hsz : i0.size = 1) (hby : i0.bytes = by_) (hb8 : by_ ≤ 8)
    (n : Nat) (hl : a.eval l = .int .i64 n) (hc : a.eval c = .int .i64 n) (hn : n ≤ 1099511627776)
    (hK : ∀ w', Sl w' E 1 (.slice (some ⟨w.heap.size, 0, none⟩) n n) (List.replicate n [z]) → Kept (fun _ => False) w w' → wpList P ops Q rest (a.put o.dst (.slice (some ⟨w.heap.size, 0, none⟩) n n)) w') : wpList P ops Q (o :: rest) a w := by
  refine wpList_make_full w hgd l c t hop 0 E i0 z 1 ht hi hz hsz .i64 .i64 n n n hl hc rfl rfl ?_ (by unfold maxLen; omega) (Nat.zero_le _) ?_
  · rw [hby]
    exact Nat.le_trans (Nat.mul_le_mul hb8 hn) (by omega)
  intro w' h1 h2
  refine hK w' ⟨fun d hd => ?_, ?_⟩ (Kept.of_grown (Kept.refl _ w) h2 (fun k hk _ => by cases hk))
  · rw [(List.mem_replicate.1 hd).2]; rfl
  · have e : (madeCells z.cells (n * 1)).toList = (List.replicate n [z]).flatten := by
      rw [Nat.mul_one, hz1]
      apply List.ext_getElem
      · simp [madeCells]
      · intro i h3 h4
        simp [madeCells, Nat.mod_one]
    rw [e] at h1
    rw [List.length_replicate]
    exact h1
/-- 'append(s, x...)', integers behind integers -/
theorem wpList_appendI (hgd : o.guard = none) (s x : Operand) (t : TypeId) (ho : o.op = .call { callee := .builtin .append, args := #[s, x], argTypes := #[t, t] })
    {i0 : TypeInfo} {z : Value} (ht : P.underlying t = some (.slice 3)) (hi : P.info? 3 = some i0) (hz : i0.zero = some z) (hsz : i0.size = 1) (hby : i0.bytes = 8) (hzs : z.cells.size = 1)
    (v xv : Value) (B L : List Int) (hs : a.eval s = v) (hx : a.eval x = xv) (h : Ints w v B) (hb : Ints w xv L) (hlen : B.length + L.length < 1099511627)
    (hK : ∀ v' w', Ints w' v' (B ++ L) → Kept (fun k => v.ownBlock = some k) w w' → (∀ g, v'.ownBlock = some g → v.ownBlock = some g ∨ w.heap.size ≤ g) → wpList P ops Q rest (a.put o.dst v') w') :
    wpList P ops Q (o :: rest) a w := by
  by_cases hL : L = []
  · subst hL
    have hr : (Builtin.append_ #[t, t] o.type #[v, xv]).run P w = .ok v w := by
      have hxv : ∃ A c, xv = .slice A 0 c := by
        obtain ⟨A, c, hv⟩ := Sl.any hb
        exact ⟨A, c, hv⟩
      obtain ⟨A, c, rfl⟩ := hxv
      obtain ⟨A', c', rfl⟩ := Sl.any h
      cases A' <;> cases A <;> simp [Builtin.append_, run_underlying ht, sizeOf, typeInfo, hi, Builtin.lenOf, Builtin.firstCells, loadCells, loadCellsFrom, storeCells]
      all_goals
        rcases Sl.shape h with ⟨hv, hB⟩ | ⟨g, cap, hv, hc, _⟩
        · simp at hv
          try simp [hv]
        · simp at hv
          try (obtain ⟨rfl, rfl⟩ := hv)
          try simp at hc
          try omega
    refine wpList_plain hgd fun K hKK => ?_
    unfold Oper.wp
    simp [execOp, ho, resolve, invoke, builtin, hs, hx, hr, Result.andThen]
    exact hKK _ _ (hK v w (by simpa using h) (Kept.refl _ w) (fun g hg => .inl hg))
  · have hpos : 0 < L.length := List.length_pos_iff.2 hL
    obtain ⟨b, c, rfl, hlc, hbl⟩ := Sl.some_ hb (by simpa using hpos)
    rw [List.length_map] at *
    have hd := h.2
    rw [ints_flat, List.length_map] at hd
    refine wpList_append_lies _ hgd s x t ho 0 3 i0 z 1 8 ht hi hz hsz hby hzs (by omega) v B.length (B.map (.int .i64)) hs hd ⟨b, 0, none⟩ L.length c (L.map (.int .i64)) hx (by simp)
      (fun j u hu => ?_) (fun u hu => ?_) hpos (by unfold maxLen; omega) (by omega) (Nat.zero_le _) w.heap.size rfl ?_
    · rw [List.getElem?_map] at hu
      obtain ⟨x, hx1, hx2⟩ := Option.map_eq_some_iff.1 hu
      have := Ints.cell hb hx1
      rw [add_n, Nat.zero_add, ← hx2]
      exact this
    · obtain ⟨x, _, rfl⟩ := List.mem_map.1 hu
      rfl
    · intro g cap w' h2 h3 h4 h5
      refine hK _ w' ⟨fun d hd => ?_, ?_⟩ (Kept.of_grown (Kept.refl _ w) h3 (fun k hk _ => hk)) ?_
      · obtain ⟨u, _, rfl⟩ := List.mem_map.1 hd; rfl
      · rw [ints_flat, List.length_map, List.length_append, List.map_append]
        exact h2
      · intro g' hg'
        simp only [Value.ownBlock, Option.some.injEq] at hg'
        subst hg'
        rcases h4 with h4 | rfl
        · exact .inl h4
        · exact .inr (Nat.le_refl _)
end

theorem cutI (g o n c i : Nat) (hi : i ≤ c) (w : World) : (Instr.sliceAt 28 (.slice (some ⟨g, o, none⟩) n c) none (some (.int .i64 i)) none).run Tryz.prog w = .ok (.slice (some ⟨g, o, none⟩) i c) w := by
  obtain ⟨i0, hI0, hI1, hI2, hI3⟩ := info_parts infoI
  simp [Instr.sliceAt, Instr.slice, run_underlying Tryz.underlying28, Instr.sliceBounds, run_sliceBound, sizeOf, typeInfo, hI0, hi, add_n]

end Go.Proofs.YtlkgmcacbfoijaaGreat

set_option linter.unusedSimpArgs false
set_option linter.unusedVariables false
namespace Go.Proofs.YtlkgmcacbfoijaaGreat
open Go.RowKit

/-! ### slots -/
structure In where
  op : Int
  dst : Int
  src : Int
  off : Int
  imm : Int
  deriving DecidableEq
structure InOk (x : In) : Prop where
  op : 0 ≤ x.op ∧ x.op ≤ 255
  dst : 0 ≤ x.dst ∧ x.dst ≤ 255
  src : 0 ≤ x.src ∧ x.src ≤ 255
  off : -32768 ≤ x.off ∧ x.off ≤ 32767
  imm : -2147483648 ≤ x.imm ∧ x.imm ≤ 2147483647
abbrev inVals (x : In) : Array Value := #[.int .u8 x.op, .int .u8 x.dst, .int .u8 x.src, .int .i16 x.off, .int .i32 x.imm]
def clsI (x : In) : Int := x.op % 8
def codeI (x : In) : Int := x.op / 16
def xB (x : In) : Bool := decide (8 ≤ x.op % 16)
theorem and7 {n : Int} (h : 0 ≤ n ∧ n ≤ 255) : bits BinOp.and .u8 n 7 = n % 8 := by
  obtain ⟨m, rfl⟩ : ∃ m : Nat, n = m := ⟨n.toNat, by omega⟩
  have : ∀ m : Nat, m < 256 → bits BinOp.and .u8 (m : Int) 7 = ((m % 8 : Nat) : Int) := by decide +kernel
  rw [this m (by omega)]
  omega
theorem and8 {n : Int} (h : 0 ≤ n ∧ n ≤ 255) : bits BinOp.and .u8 n 8 = if 8 ≤ n % 16 then 8 else 0 := by
  obtain ⟨m, rfl⟩ : ∃ m : Nat, n = m := ⟨n.toNat, by omega⟩
  have : ∀ m : Nat, m < 256 → bits BinOp.and .u8 (m : Int) 8 = if 8 ≤ m % 16 then 8 else 0 := by decide +kernel
  rw [this m (by omega)]
  by_cases h8 : 8 ≤ m % 16
  · rw [if_pos h8, if_pos (by omega)]
  · rw [if_neg h8, if_neg (by omega)]

set_option maxHeartbeats 1000000 in
theorem class_any (n : Int) (w : World) (h : 0 ≤ n ∧ n ≤ 255) : Calls Tryz.prog 103 #[.int .u8 n] w fun e w' => e = .returned (.int .i64 (n % 8)) ∧ w = w' := by
  have h7 := and7 h
  go_enter Tryz.func103, Tryz.ntmps103
  go_wp2_with fail
  go_ret
  exact ⟨rfl, rfl⟩
set_option maxHeartbeats 1000000 in
theorem code_any (n : Int) (w : World) (h : 0 ≤ n ∧ n ≤ 255) : Calls Tryz.prog 104 #[.int .u8 n] w fun e w' => e = .returned (.int .i64 (n / 16)) ∧ w = w' := by
  go_enter Tryz.func104, Tryz.ntmps104
  go_wp2_with fail
  go_ret
  exact ⟨rfl, rfl⟩

def operandB (x : In) : Bool := if xB x = true then x.imm == 0 else x.src == 0
theorem and8x {x : In} (h : InOk x) : bits BinOp.and .u8 x.op 8 = if xB x = true then 8 else 0 := by
  rw [and8 h.op]
  unfold xB
  by_cases h8 : 8 ≤ x.op % 16 <;> simp [h8]
set_option maxHeartbeats 1000000 in
theorem operand_any (x : In) (w : World) (hx : InOk x) : Calls Tryz.prog 121 #[.agg (inVals x)] w fun e w' => e = .returned (.bool (operandB x)) ∧ Kept (fun _ => False) w w' := by
  have h8 := and8x hx
  unfold operandB
  cases hb : xB x
  all_goals
    simp only [hb, if_true, if_false, Bool.false_eq_true] at h8 ⊢
    clear hb
    go_enter Tryz.func121, Tryz.ntmps121
    go_wp2_with fail
    go_ret
    exact ⟨rfl, (Kept.refl _ w).alloc _⟩

/-! ### arith -/
def arithB (x : In) : Bool := if x.off = 0 then (if codeI x = 8 then (!xB x && (x.src == 0)) && (x.imm == 0)
  else if codeI x = 13 then ((x.src == 0) && ((x.imm == 16 || x.imm == 32) || x.imm == 64)) && !(xB x && clsI x == 7)
  else if 13 < codeI x then false else operandB x) else false
set_option maxHeartbeats 4000000 in
theorem arith_any (x : In) (w : World) (hx : InOk x) : Calls Tryz.prog 105 #[.agg (inVals x)] w fun e w' => e = .returned (.bool (arithB x)) ∧ Kept (fun _ => False) w w' := by
  have h8 := and8x hx
  have HC := Lib.hid (fun W => class_any x.op W hx.op)
  have HK := Lib.hid (fun W => code_any x.op W hx.op)
  have HO := Lib.hid (fun W => operand_any x W hx)
  have hc0 : clsI x = x.op % 8 := rfl
  have hk0 : codeI x = x.op / 16 := rfl
  rw [← hc0] at HC
  rw [← hk0] at HK
  obtain ⟨r, hr⟩ : ∃ r, arithB x = r := ⟨_, rfl⟩
  rw [hr]
  unfold arithB at hr
  generalize operandB x = ob at *
  generalize xB x = xb at *
  generalize codeI x = k at *
  generalize clsI x = c at *
  clear hc0 hk0 hx
  by_cases ho : x.off = 0
  case neg =>
    rw [if_neg ho] at hr
    have ho2 : (x.off != 0) = true := by simpa using ho
    clear ho
    subst hr
    cases xb
    all_goals
      simp only [Bool.not_false, Bool.not_true, Bool.true_and, Bool.false_and, Bool.and_true, Bool.and_false, Bool.true_or, Bool.false_or, Bool.or_true, Bool.or_false, if_true, if_false, Bool.false_eq_true, reduceIte] at h8
      go_enter Tryz.func105, Tryz.ntmps105
      go_wp2_with (fail)
      go_ret
      exact ⟨rfl, (Kept.refl _ w).alloc _⟩
  case pos =>
  rw [if_pos ho] at hr
  have ho2 : (x.off != 0) = false := by simp [ho]
  clear ho
  by_cases k8 : k = 8
  · subst k8
    rw [if_pos rfl] at hr
    cases xb <;> cases hs : (x.src == 0)
    all_goals
      simp only [hs, Bool.not_false, Bool.not_true, Bool.true_and, Bool.false_and, Bool.and_true, Bool.and_false, Bool.true_or, Bool.false_or, Bool.or_true, Bool.or_false, if_true, if_false, Bool.false_eq_true, reduceIte] at hr h8
      subst hr
      go_enter Tryz.func105, Tryz.ntmps105
      go_wp2_with ((go_at_call 104; refine (HK.out _).mono ?_; rintro e w1 ⟨rfl, rfl⟩))
      go_ret
      exact ⟨rfl, (Kept.refl _ w).alloc _⟩
  by_cases k13 : k = 13
  · subst k13
    rw [if_neg (by decide), if_pos rfl] at hr
    cases hs : (x.src == 0)
    · simp only [hs, Bool.not_false, Bool.not_true, Bool.true_and, Bool.false_and, Bool.and_true, Bool.and_false, Bool.true_or, Bool.false_or, Bool.or_true, Bool.or_false, if_true, if_false, Bool.false_eq_true, reduceIte] at hr
      subst hr
      cases xb
      all_goals
        simp only [Bool.not_false, Bool.not_true, Bool.true_and, Bool.false_and, Bool.and_true, Bool.and_false, Bool.true_or, Bool.false_or, Bool.or_true, Bool.or_false, if_true, if_false, Bool.false_eq_true, reduceIte] at h8
        go_enter Tryz.func105, Tryz.ntmps105
        go_wp2_with ((go_at_call 104; refine (HK.out _).mono ?_; rintro e w1 ⟨rfl, rfl⟩))
        go_ret
        exact ⟨rfl, (Kept.refl _ w).alloc _⟩
    · cases xb <;> cases h16 : (x.imm == 16) <;> cases h32 : (x.imm == 32) <;> cases h64 : (x.imm == 64)
      all_goals
        simp only [hs, h16, h32, h64, Bool.not_false, Bool.not_true, Bool.true_and, Bool.false_and, Bool.and_true, Bool.and_false, Bool.true_or, Bool.false_or, Bool.or_true, Bool.or_false, if_true, if_false, Bool.false_eq_true, reduceIte] at hr h8
        subst hr
        go_enter Tryz.func105, Tryz.ntmps105
        go_wp2_with (first | (go_at_call 104; refine (HK.out _).mono ?_; rintro e w1 ⟨rfl, rfl⟩) | (go_at_call 103; refine (HC.out _).mono ?_; rintro e w1 ⟨rfl, rfl⟩))
        go_ret
        exact ⟨rfl, (Kept.refl _ w).alloc _⟩
  rw [if_neg k8, if_neg k13] at hr
  have k8d : (k == 8) = false := by simpa using k8
  have k13d : (k == 13) = false := by simpa using k13
  clear k8 k13
  by_cases kg : 13 < k
  · rw [if_pos kg] at hr
    subst hr
    have kgd : decide ((13 : Int) < k) = true := decide_eq_true kg
    clear kg
    cases xb
    all_goals
      simp only [Bool.not_false, Bool.not_true, Bool.true_and, Bool.false_and, Bool.and_true, Bool.and_false, Bool.true_or, Bool.false_or, Bool.or_true, Bool.or_false, if_true, if_false, Bool.false_eq_true, reduceIte] at h8
      go_enter Tryz.func105, Tryz.ntmps105
      go_wp2_with ((go_at_call 104; refine (HK.out _).mono ?_; rintro e w1 ⟨rfl, rfl⟩))
      go_ret
      exact ⟨rfl, (Kept.refl _ w).alloc _⟩
  · rw [if_neg kg] at hr
    subst hr
    have kgd : decide ((13 : Int) < k) = false := decide_eq_false kg
    clear kg
    cases xb
    all_goals
      simp only [Bool.not_false, Bool.not_true, Bool.true_and, Bool.false_and, Bool.and_true, Bool.and_false, Bool.true_or, Bool.false_or, Bool.or_true, Bool.or_false, if_true, if_false, Bool.false_eq_true, reduceIte] at h8
      go_enter Tryz.func105, Tryz.ntmps105
      go_wp2_with (first | (go_at_call 104; refine (HK.out _).mono ?_; rintro e w1 ⟨rfl, rfl⟩) | (go_at_call 121; refine (HO.out _).mono ?_; rintro e w2 ⟨rfl, hk2⟩))
      go_ret
      exact ⟨rfl, ((Kept.refl _ w).alloc _).trans hk2 (fun _ _ h => h)⟩

end Go.Proofs.YtlkgmcacbfoijaaGreat

set_option linter.unusedSimpArgs false
set_option linter.unusedVariables false
namespace Go.Proofs.YtlkgmcacbfoijaaGreat
open Go.RowKit

/-! ### jump -/
def wholeJ (x : In) : Bool := (clsI x == 5 && !xB x) && (x.dst == 0)
def jumpB (x : In) : Bool := if codeI x = 0 then (wholeJ x && (x.src == 0)) && (x.imm == 0) else if codeI x = 8 then (wholeJ x && (x.off == 0)) && decide (x.src ≤ 1)
  else if codeI x = 9 then ((wholeJ x && (x.src == 0)) && (x.off == 0)) && (x.imm == 0) else decide (codeI x ≤ 13) && operandB x
set_option maxHeartbeats 8000000 in
theorem jump_any (x : In) (w : World) (hx : InOk x) : Calls Tryz.prog 106 #[.agg (inVals x)] w fun e w' => e = .returned (.bool (jumpB x)) ∧ Kept (fun _ => False) w w' := by
  have h8 := and8x hx
  have HC := Lib.hid (fun W => class_any x.op W hx.op)
  have HK := Lib.hid (fun W => code_any x.op W hx.op)
  have HO := Lib.hid (fun W => operand_any x W hx)
  have hc0 : clsI x = x.op % 8 := rfl
  have hk0 : codeI x = x.op / 16 := rfl
  rw [← hc0] at HC
  rw [← hk0] at HK
  obtain ⟨r, hr⟩ : ∃ r, jumpB x = r := ⟨_, rfl⟩
  rw [hr]
  unfold jumpB wholeJ at hr
  generalize operandB x = ob at *
  generalize xB x = xb at *
  generalize codeI x = k at *
  generalize clsI x = c at *
  clear hc0 hk0 hx
  have four : ((c == 5) = false ∧ xb = false ∨ (c == 5) = false ∧ xb = true ∨ (c == 5) = true ∧ xb = true ∨ (c == 5) = true ∧ xb = false ∧ (x.dst == 0) = false) ∨ (c == 5) = true ∧ xb = false ∧ (x.dst == 0) = true := by
    cases (c == 5) <;> cases xb <;> cases (x.dst == 0) <;> simp
  by_cases k0 : k = 0
  · subst k0
    rw [if_pos rfl] at hr
    rcases four with (⟨h1, rfl⟩ | ⟨h1, rfl⟩ | ⟨h1, rfl⟩ | ⟨h1, rfl, h3⟩) | ⟨h1, rfl, h3⟩ <;> cases hs : (x.src == 0)
    all_goals
      try simp only [h1] at hr
      try simp only [h3] at hr
      try simp only [hs] at hr
      try simp only [ho] at hr
      try simp only [Bool.not_false, Bool.not_true, Bool.true_and, Bool.false_and, Bool.and_true, Bool.and_false, Bool.true_or, Bool.false_or, Bool.or_true, Bool.or_false, if_true, if_false, Bool.false_eq_true, reduceIte] at hr
      try simp only [Bool.not_false, Bool.not_true, Bool.true_and, Bool.false_and, Bool.and_true, Bool.and_false, Bool.true_or, Bool.false_or, Bool.or_true, Bool.or_false, if_true, if_false, Bool.false_eq_true, reduceIte] at h8
      subst hr
      go_enter Tryz.func106, Tryz.ntmps106
      go_wp2_with (first | (go_at_call 104; refine (HK.out _).mono ?_; rintro e w1 ⟨rfl, rfl⟩) | (go_at_call 103; refine (HC.out _).mono ?_; rintro e w1 ⟨rfl, rfl⟩))
      go_ret
      exact ⟨rfl, (Kept.refl _ w).alloc _⟩
  by_cases k8 : k = 8
  · subst k8
    rw [if_neg (by decide), if_pos rfl] at hr
    rcases four with (⟨h1, rfl⟩ | ⟨h1, rfl⟩ | ⟨h1, rfl⟩ | ⟨h1, rfl, h3⟩) | ⟨h1, rfl, h3⟩ <;> cases hs : (x.off == 0)
    all_goals
      try simp only [h1] at hr
      try simp only [h3] at hr
      try simp only [hs] at hr
      try simp only [ho] at hr
      try simp only [Bool.not_false, Bool.not_true, Bool.true_and, Bool.false_and, Bool.and_true, Bool.and_false, Bool.true_or, Bool.false_or, Bool.or_true, Bool.or_false, if_true, if_false, Bool.false_eq_true, reduceIte] at hr
      try simp only [Bool.not_false, Bool.not_true, Bool.true_and, Bool.false_and, Bool.and_true, Bool.and_false, Bool.true_or, Bool.false_or, Bool.or_true, Bool.or_false, if_true, if_false, Bool.false_eq_true, reduceIte] at h8
      subst hr
      go_enter Tryz.func106, Tryz.ntmps106
      go_wp2_with (first | (go_at_call 104; refine (HK.out _).mono ?_; rintro e w1 ⟨rfl, rfl⟩) | (go_at_call 103; refine (HC.out _).mono ?_; rintro e w1 ⟨rfl, rfl⟩))
      go_ret
      exact ⟨rfl, (Kept.refl _ w).alloc _⟩
  by_cases k9 : k = 9
  · subst k9
    rw [if_neg (by decide), if_neg (by decide), if_pos rfl] at hr
    rcases four with (⟨h1, rfl⟩ | ⟨h1, rfl⟩ | ⟨h1, rfl⟩ | ⟨h1, rfl, h3⟩) | ⟨h1, rfl, h3⟩ <;> cases hs : (x.src == 0) <;> cases ho : (x.off == 0)
    all_goals
      try simp only [h1] at hr
      try simp only [h3] at hr
      try simp only [hs] at hr
      try simp only [ho] at hr
      try simp only [Bool.not_false, Bool.not_true, Bool.true_and, Bool.false_and, Bool.and_true, Bool.and_false, Bool.true_or, Bool.false_or, Bool.or_true, Bool.or_false, if_true, if_false, Bool.false_eq_true, reduceIte] at hr
      try simp only [Bool.not_false, Bool.not_true, Bool.true_and, Bool.false_and, Bool.and_true, Bool.and_false, Bool.true_or, Bool.false_or, Bool.or_true, Bool.or_false, if_true, if_false, Bool.false_eq_true, reduceIte] at h8
      subst hr
      go_enter Tryz.func106, Tryz.ntmps106
      go_wp2_with (first | (go_at_call 104; refine (HK.out _).mono ?_; rintro e w1 ⟨rfl, rfl⟩) | (go_at_call 103; refine (HC.out _).mono ?_; rintro e w1 ⟨rfl, rfl⟩))
      go_ret
      exact ⟨rfl, (Kept.refl _ w).alloc _⟩
  rw [if_neg k0, if_neg k8, if_neg k9] at hr
  have k0d : (k == 0) = false := by simpa using k0
  have k8d : (k == 8) = false := by simpa using k8
  have k9d : (k == 9) = false := by simpa using k9
  clear k0 k8 k9
  rcases four with (⟨h1, rfl⟩ | ⟨h1, rfl⟩ | ⟨h1, rfl⟩ | ⟨h1, rfl, h3⟩) | ⟨h1, rfl, h3⟩ <;> cases hg : decide (k ≤ 13)
  all_goals
    simp only [hg, Bool.not_false, Bool.not_true, Bool.true_and, Bool.false_and, Bool.and_true, Bool.and_false, Bool.true_or, Bool.false_or, Bool.or_true, Bool.or_false, if_true, if_false, Bool.false_eq_true, reduceIte] at hr h8
    subst hr
  all_goals first
    | (
      go_enter Tryz.func106, Tryz.ntmps106
      go_wp2_with (first | (go_at_call 104; refine (HK.out _).mono ?_; rintro e w1 ⟨rfl, rfl⟩) | (go_at_call 103; refine (HC.out _).mono ?_; rintro e w1 ⟨rfl, rfl⟩) | (go_at_call 121; refine (HO.out _).mono ?_; rintro e w2 ⟨rfl, hk2⟩))
      go_ret
      exact ⟨rfl, ((Kept.refl _ w).alloc _).trans hk2 (fun _ _ h => h)⟩
    )
    | (
      go_enter Tryz.func106, Tryz.ntmps106
      go_wp2_with (first | (go_at_call 104; refine (HK.out _).mono ?_; rintro e w1 ⟨rfl, rfl⟩) | (go_at_call 103; refine (HC.out _).mono ?_; rintro e w1 ⟨rfl, rfl⟩))
      go_ret
      exact ⟨rfl, (Kept.refl _ w).alloc _⟩
    )

/-! ### memory -/
def memB (x : In) : Bool := if x.op = 97 ∨ x.op = 105 ∨ x.op = 113 ∨ x.op = 121 ∨ x.op = 99 ∨ x.op = 107 ∨ x.op = 115 ∨ x.op = 123 then x.imm == 0 else if x.op = 98 ∨ x.op = 106 ∨ x.op = 114 ∨ x.op = 122 then x.src == 0 else false
set_option maxHeartbeats 8000000 in
theorem memory_any (x : In) (w : World) (hx : InOk x) : Calls Tryz.prog 107 #[.agg (inVals x)] w fun e w' => e = .returned (.bool (memB x)) ∧ Kept (fun _ => False) w w' := by
  obtain ⟨op, dst, src, off, imm⟩ := x
  unfold memB
  by_cases h1 : op = 97 ∨ op = 105 ∨ op = 113 ∨ op = 121 ∨ op = 99 ∨ op = 107 ∨ op = 115 ∨ op = 123
  · rw [if_pos h1]
    rcases h1 with rfl | rfl | rfl | rfl | rfl | rfl | rfl | rfl
    all_goals
      go_enter Tryz.func107, Tryz.ntmps107
      go_wp2_with (fail)
      go_ret
      exact ⟨rfl, (Kept.refl _ w).alloc _⟩
  rw [if_neg h1]
  by_cases h2 : op = 98 ∨ op = 106 ∨ op = 114 ∨ op = 122
  · rw [if_pos h2]
    rcases h2 with rfl | rfl | rfl | rfl
    all_goals
      go_enter Tryz.func107, Tryz.ntmps107
      go_wp2_with (fail)
      go_ret
      exact ⟨rfl, (Kept.refl _ w).alloc _⟩
  rw [if_neg h2]
  have n97 : (op == 97) = false := by simp; omega
  have n105 : (op == 105) = false := by simp; omega
  have n113 : (op == 113) = false := by simp; omega
  have n121 : (op == 121) = false := by simp; omega
  have n99 : (op == 99) = false := by simp; omega
  have n107 : (op == 107) = false := by simp; omega
  have n115 : (op == 115) = false := by simp; omega
  have n123 : (op == 123) = false := by simp; omega
  have n98 : (op == 98) = false := by simp; omega
  have n106 : (op == 106) = false := by simp; omega
  have n114 : (op == 114) = false := by simp; omega
  have n122 : (op == 122) = false := by simp; omega
  clear h1 h2
  go_enter Tryz.func107, Tryz.ntmps107
  go_wp2_with (fail)
  go_ret
  exact ⟨rfl, (Kept.refl _ w).alloc _⟩

/-! ### Known -/
def knownB (x : In) : Bool := if clsI x = 4 ∨ clsI x = 7 then arithB x else if clsI x = 5 ∨ clsI x = 6 then jumpB x else if clsI x = 0 then ((x.op == 24) && (x.off == 0)) && (((x.src == 0) || (x.src == 1)) || (x.src == 4)) else memB x
set_option maxHeartbeats 8000000 in
theorem known1_any (x : In) (w : World) (hx : InOk x) : Calls Tryz.prog 75 #[.agg (inVals x)] w fun e w' => e = .returned (.bool (knownB x)) ∧ Kept (fun _ => False) w w' := by
  have HC := Lib.hid (fun W => class_any x.op W hx.op)
  have HA := Lib.hid (fun W => arith_any x W hx)
  have HJ := Lib.hid (fun W => jump_any x W hx)
  have HM := Lib.hid (fun W => memory_any x W hx)
  have hc0 : clsI x = x.op % 8 := rfl
  rw [← hc0] at HC
  obtain ⟨r, hr⟩ : ∃ r, knownB x = r := ⟨_, rfl⟩
  rw [hr]
  unfold knownB at hr
  have hcl : 0 ≤ clsI x ∧ clsI x ≤ 7 := by unfold clsI; have := hx.op; omega
  generalize clsI x = c at *
  generalize arithB x = ab at *
  generalize jumpB x = jb at *
  generalize memB x = mb at *
  clear hc0 hx
  by_cases hz : c = 0
  · subst hz
    simp only [reduceIte, Int.reduceEq, or_false, or_true, or_self, true_or] at hr
    cases ho : (x.op == 24) <;> cases hf : (x.off == 0) <;> cases hs : (x.src == 0) <;> cases h1 : (x.src == 1)
    all_goals
      try simp only [ho, hf, hs, h1, Bool.not_false, Bool.not_true, Bool.true_and, Bool.false_and, Bool.and_true, Bool.and_false, Bool.true_or, Bool.false_or, Bool.or_true, Bool.or_false, if_true, if_false, Bool.false_eq_true, reduceIte] at hr
      subst hr
      go_enter Tryz.func75, Tryz.ntmps75
      go_wp2_with ((go_at_call 103; refine (HC.out _).mono ?_; rintro e w1 ⟨rfl, rfl⟩))
      go_ret
      exact ⟨rfl, (Kept.refl _ w).alloc _⟩

  have hcs : c = 4 ∨ c = 7 ∨ c = 5 ∨ c = 6 ∨ c = 1 ∨ c = 2 ∨ c = 3 := by omega
  clear hcl hz
  rcases hcs with rfl | rfl | rfl | rfl | rfl | rfl | rfl
  all_goals
    simp only [reduceIte, Int.reduceEq, or_false, or_true, or_self, true_or] at hr
    subst hr
    go_enter Tryz.func75, Tryz.ntmps75
    go_wp2_with (first | (go_at_call 103; refine (HC.out _).mono ?_; rintro e w1 ⟨rfl, rfl⟩) | (go_at_call 105; refine (HA.out _).mono ?_; rintro e w2 ⟨rfl, hk2⟩) | (go_at_call 106; refine (HJ.out _).mono ?_; rintro e w2 ⟨rfl, hk2⟩) | (go_at_call 107; refine (HM.out _).mono ?_; rintro e w2 ⟨rfl, hk2⟩))
    go_ret
    exact ⟨rfl, ((Kept.refl _ w).alloc _).trans hk2 (fun _ _ h => h)⟩

/-! ### writes -/
def writesB (x : In) : Bool := (((clsI x == 0) || (clsI x == 1)) || (clsI x == 4)) || (clsI x == 7)
set_option maxHeartbeats 8000000 in
theorem writes_any (x : In) (w : World) (hx : InOk x) : Calls Tryz.prog 101 #[.agg (inVals x)] w fun e w' => e = .returned (.bool (writesB x)) ∧ Kept (fun _ => False) w w' := by
  have HC := Lib.hid (fun W => class_any x.op W hx.op)
  have hc0 : clsI x = x.op % 8 := rfl
  rw [← hc0] at HC
  obtain ⟨r, hr⟩ : ∃ r, writesB x = r := ⟨_, rfl⟩
  rw [hr]
  unfold writesB at hr
  generalize clsI x = c at *
  clear hc0 hx
  cases h0 : (c == 0) <;> cases h1 : (c == 1) <;> cases h4 : (c == 4)
  all_goals
    simp only [*, Bool.not_false, Bool.not_true, Bool.true_and, Bool.false_and, Bool.and_true, Bool.and_false, Bool.true_or, Bool.false_or, Bool.or_true, Bool.or_false, if_true, if_false, Bool.false_eq_true, reduceIte] at hr
    subst hr
    go_enter Tryz.func101, Tryz.ntmps101
    go_wp2_with ((go_at_call 103; refine (HC.out _).mono ?_; rintro e w1 ⟨rfl, rfl⟩))
    go_ret
    exact ⟨rfl, (Kept.refl _ w).alloc _⟩

end Go.Proofs.YtlkgmcacbfoijaaGreat

