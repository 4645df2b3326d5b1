import Derived.Laws.CopyOwn
import Derived.Test.YtdchmelgaljpfaaGreatJo
import Derived.Test.YtdchmelgaljpfaaGreatJp
import Derived.Test.YtdchmelgaljpfaaGreatJs
import Derived.Test.YtdchmelgaljpfaaGreatKc
import Derived.Test.YtdchmelgaljpfaaGreatKe
import Derived.Test.YtdchmelgaljpfaaGreatMem
set_option linter.unusedSimpArgs false
set_option linter.unusedVariables false
namespace Go.Proofs.YtdchmelgaljpfaaGreat
open Go.RowKit

/-! ### registers as rows of bits -/
def bitN (n : Int) : Nat := 2 ^ n.toNat
theorem bitN_lt {n : Int} (h : n ≤ 10) : bitN n < 2048 := by
  unfold bitN
  have h2 : n.toNat ≤ 10 := by omega
  have := Nat.pow_le_pow_right (n := 2) (by omega) h2
  omega
theorem eleven {n : Int} (h : 0 ≤ n ∧ n ≤ 10) : n = 0 ∨ n = 1 ∨ n = 2 ∨ n = 3 ∨ n = 4 ∨ n = 5 ∨ n = 6 ∨ n = 7 ∨ n = 8 ∨ n = 9 ∨ n = 10 := by omega
set_option maxHeartbeats 2000000 in
theorem lbit_any (n : Int) (w : World) (h : 0 ≤ n ∧ n ≤ 10) : Calls Tryz.prog 190 #[.int .u8 n] w fun e w' => e = .returned (.int .u16 (bitN n)) ∧ w = w' := by
  rcases eleven h with rfl | rfl | rfl | rfl | rfl | rfl | rfl | rfl | rfl | rfl | rfl
  all_goals
    go_enter Tryz.func190, Tryz.ntmps190
    go_wp2_with fail
    go_ret
    exact ⟨rfl, rfl⟩
set_option maxHeartbeats 2000000 in
theorem rbit_any (n : Int) (w : World) (h : 0 ≤ n ∧ n ≤ 10) : Calls Tryz.prog 119 #[.int .u8 n] w fun e w' => e = .returned (.int .u16 (bitN n)) ∧ w = w' := by
  rcases eleven h with rfl | rfl | rfl | rfl | rfl | rfl | rfl | rfl | rfl | rfl | rfl
  all_goals
    go_enter Tryz.func119, Tryz.ntmps119
    go_wp2_with fail
    go_ret
    exact ⟨rfl, rfl⟩
def secN (x : In) : Nat := if xB x = true then bitN x.src else 0
/-- an operation that is known, of registers that there are -/
def rightB (x : In) : Bool := knownB x && (decide (x.dst ≤ 10) && decide (x.src ≤ 10))
set_option maxHeartbeats 2000000 in
theorem lright_any (x : In) (w : World) (hx : InOk x) : Calls Tryz.prog 152 #[.agg (inVals x)] w fun e w' => e = .returned (.bool (rightB x)) ∧ Kept (fun _ => False) w w' := by
  have HK := Lib.hid (fun W => known1_any x W hx)
  obtain ⟨r, hr⟩ : ∃ r, rightB x = r := ⟨_, rfl⟩
  rw [hr]
  unfold rightB at hr
  generalize knownB x = kn at *
  have hBn := Blk.new w 75 (inVals x)
  have hKn : Kept (fun _ => False) w (w.alloc (.cells (inVals x) 75)) := (Kept.refl _ w).alloc _
  cases kn <;> cases h1 : decide (x.dst ≤ 10) <;> cases h2 : decide (x.src ≤ 10)
  all_goals
    simp only [h1, h2, Bool.true_and, Bool.false_and, Bool.and_true, Bool.and_false, Bool.and_self] at hr
    subst hr
    go_enter Tryz.func152, Tryz.ntmps152
    go_wp2_with fail
    refine (HK.out _).mono ?_
    rintro e w1 ⟨rfl, hk1⟩
    have hb1 := hk1.blk (fun h => h) hBn
    have x1 := hb1.cell 1
    have x2 := hb1.cell 2
    go_wp2_with fail
    go_ret
    exact ⟨rfl, hKn.trans hk1 (fun _ _ h => h)⟩
/-- what an operation writes -/
def writesN (x : In) : Nat := if writesB x = true then bitN x.dst else if (x.op == 133) = true then 63 else 0
set_option maxHeartbeats 4000000 in
theorem lwrites_any (x : In) (w : World) (hx : InOk x) (hd : x.dst ≤ 10) : Calls Tryz.prog 153 #[.agg (inVals x)] w fun e w' => e = .returned (.int .u16 (writesN x)) ∧ w' = w.alloc (.cells (inVals x) 75) := by
  have h7 := and7 hx.op
  have HB := Lib.hid (fun W => lbit_any x.dst W ⟨hx.dst.1, hd⟩)
  obtain ⟨r, hr⟩ : ∃ r, writesN x = r := ⟨_, rfl⟩
  rw [hr]
  unfold writesN writesB clsI at hr
  generalize bitN x.dst = bd at *
  generalize x.op % 8 = cl at *
  have hc : (cl == 0) = true ∨ (cl == 0) = false ∧ (cl == 1) = true ∨ (cl == 0) = false ∧ (cl == 1) = false ∧ (cl == 4) = true ∨ (cl == 0) = false ∧ (cl == 1) = false ∧ (cl == 4) = false ∧ (cl == 7) = true ∨ (cl == 0) = false ∧ (cl == 1) = false ∧ (cl == 4) = false ∧ (cl == 7) = false := by
    cases (cl == 0) <;> cases (cl == 1) <;> cases (cl == 4) <;> cases (cl == 7) <;> simp
  have HR := Lib.hid hr
  clear hr
  cases h133 : (x.op == 133)
  all_goals
    have h133d := h133
    rcases hc with q0 | ⟨q0, q1⟩ | ⟨q0, q1, q4⟩ | ⟨q0, q1, q4, q7⟩ | ⟨q0, q1, q4, q7⟩
    all_goals
      have hr := HR.out
      try simp only [q0] at hr
      try simp only [q1] at hr
      try simp only [q4] at hr
      try simp only [q7] at hr
      simp only [h133, Bool.true_or, Bool.false_or, Bool.or_true, Bool.or_false, Bool.or_self, if_true, if_false, Bool.false_eq_true] at hr
      subst hr
      clear HR
      go_enter Tryz.func153, Tryz.ntmps153
      go_wp2_with (go_at_call 190; refine (HB.out _).mono ?_; rintro e w2 ⟨rfl, rfl⟩)
      go_ret
      exact ⟨rfl, rfl⟩


open Go.RowKit

/-! ### helpers -/
abbrev prV (nm : ByteArray) (a0 a1 a2 a3 a4 ret maps : Int) (ac re : Bool) : Array Value := #[.string nm, .int .i64 a0, .int .i64 a1, .int .i64 a2, .int .i64 a3, .int .i64 a4, .int .i64 ret, .int .i64 maps, .bool ac, .bool re]
section
variable {P : Program} {w : World} {ops : Array Oper} {rest : List Oper} {o : Oper} {a : Act} {Q : Exit → Act → World → Prop}
end
set_option linter.unusedSimpArgs false
set_option linter.unusedVariables false
open Go.RowKit

/-! ### the table of helpers -/
/-- a helper's cells, by its number -/
def prL (n : Nat) : Array Value := match n with
  | 1 => prV ⟨#[109, 97, 112, 95, 108, 111, 111, 107, 117, 112]⟩ 2 3 0 0 0 1 6 false false
  | 2 => prV ⟨#[109, 97, 112, 95, 117, 112, 100, 97, 116, 101]⟩ 2 3 4 1 0 0 6 false false
  | 3 => prV ⟨#[109, 97, 112, 95, 100, 101, 108, 101, 116, 101]⟩ 2 3 0 0 0 0 6 false false
  | 4 => prV ⟨#[99, 108, 111, 99, 107]⟩ 0 0 0 0 0 0 0 false false
  | 5 => prV ⟨#[114, 97, 110, 100, 111, 109]⟩ 0 0 0 0 0 0 0 false false
  | 6 => prV ⟨#[116, 97, 105, 108, 95, 99, 97, 108, 108]⟩ 8 2 1 0 0 0 8 false false
  | 7 => prV ⟨#[108, 111, 111, 112]⟩ 1 9 17 0 0 0 0 false false
  | 8 => prV ⟨#[114, 105, 110, 103, 95, 111, 117, 116, 112, 117, 116]⟩ 2 5 7 0 0 0 16 false false
  | 9 => prV ⟨#[114, 105, 110, 103, 95, 114, 101, 115, 101, 114, 118, 101]⟩ 2 1 0 0 0 2 16 true false
  | 10 => prV ⟨#[114, 105, 110, 103, 95, 115, 117, 98, 109, 105, 116]⟩ 10 0 0 0 0 0 0 false true
  | 11 => prV ⟨#[114, 105, 110, 103, 95, 100, 105, 115, 99, 97, 114, 100]⟩ 10 0 0 0 0 0 0 false true
  | 12 => prV ⟨#[114, 105, 110, 103, 95, 113, 117, 101, 114, 121]⟩ 2 0 0 0 0 0 16 false false
  | 13 => prV ⟨#[115, 111, 99, 107, 95, 108, 111, 111, 107, 117, 112]⟩ 8 5 7 0 0 3 0 true false
  | 14 => prV ⟨#[115, 111, 99, 107, 95, 114, 101, 108, 101, 97, 115, 101]⟩ 11 0 0 0 0 0 0 false true
  | 15 => prV ⟨#[116, 105, 109, 101, 114, 95, 105, 110, 105, 116]⟩ 12 2 0 0 0 0 6 false false
  | 16 => prV ⟨#[116, 105, 109, 101, 114, 95, 99, 97, 108, 108, 98, 97, 99, 107]⟩ 12 9 0 0 0 0 0 false false
  | 17 => prV ⟨#[116, 105, 109, 101, 114, 95, 115, 116, 97, 114, 116]⟩ 12 1 0 0 0 0 0 false false
  | 18 => prV ⟨#[116, 105, 109, 101, 114, 95, 99, 97, 110, 99, 101, 108]⟩ 12 0 0 0 0 0 0 false false
  | 19 => prV ⟨#[100, 121, 110, 95, 114, 101, 115, 101, 114, 118, 101]⟩ 2 1 13 0 0 0 16 true false
  | 20 => prV ⟨#[100, 121, 110, 95, 115, 117, 98, 109, 105, 116]⟩ 14 0 0 0 0 0 0 false true
  | 21 => prV ⟨#[100, 121, 110, 95, 100, 105, 115, 99, 97, 114, 100]⟩ 14 0 0 0 0 0 0 false true
  | 22 => prV ⟨#[100, 121, 110, 95, 109, 101, 109]⟩ 5 7 13 0 0 0 0 false false
  | 23 => prV ⟨#[100, 121, 110, 95, 114, 101, 97, 100]⟩ 6 7 14 1 0 0 0 false false
  | 24 => prV ⟨#[100, 121, 110, 95, 119, 114, 105, 116, 101]⟩ 14 1 5 7 0 0 0 false false
  | 25 => prV ⟨#[100, 121, 110, 95, 100, 97, 116, 97]⟩ 14 1 1 0 0 4 0 false false
  | 26 => prV ⟨#[105, 116, 101, 114, 95, 110, 101, 119]⟩ 15 1 1 0 0 0 0 true false
  | 27 => prV ⟨#[105, 116, 101, 114, 95, 110, 101, 120, 116]⟩ 16 0 0 0 0 5 0 false false
  | 28 => prV ⟨#[105, 116, 101, 114, 95, 100, 114, 111, 112]⟩ 16 0 0 0 0 0 0 false true
  | _ => prV .empty 0 0 0 0 0 0 0 false false
def tabV : Array Value := #[.string .empty, .int .i64 0, .int .i64 0, .int .i64 0, .int .i64 0, .int .i64 0, .int .i64 0, .int .i64 0, .bool false, .bool false, .string ⟨#[109, 97, 112, 95, 108, 111, 111, 107, 117, 112]⟩, .int .i64 2, .int .i64 3, .int .i64 0, .int .i64 0, .int .i64 0, .int .i64 1, .int .i64 6, .bool false, .bool false, .string ⟨#[109, 97, 112, 95, 117, 112, 100, 97, 116, 101]⟩, .int .i64 2, .int .i64 3, .int .i64 4, .int .i64 1, .int .i64 0, .int .i64 0, .int .i64 6, .bool false, .bool false, .string ⟨#[109, 97, 112, 95, 100, 101, 108, 101, 116, 101]⟩, .int .i64 2, .int .i64 3, .int .i64 0, .int .i64 0, .int .i64 0, .int .i64 0, .int .i64 6, .bool false, .bool false, .string ⟨#[99, 108, 111, 99, 107]⟩, .int .i64 0, .int .i64 0, .int .i64 0, .int .i64 0, .int .i64 0, .int .i64 0, .int .i64 0, .bool false, .bool false, .string ⟨#[114, 97, 110, 100, 111, 109]⟩, .int .i64 0, .int .i64 0, .int .i64 0, .int .i64 0, .int .i64 0, .int .i64 0, .int .i64 0, .bool false, .bool false, .string ⟨#[116, 97, 105, 108, 95, 99, 97, 108, 108]⟩, .int .i64 8, .int .i64 2, .int .i64 1, .int .i64 0, .int .i64 0, .int .i64 0, .int .i64 8, .bool false, .bool false, .string ⟨#[108, 111, 111, 112]⟩, .int .i64 1, .int .i64 9, .int .i64 17, .int .i64 0, .int .i64 0, .int .i64 0, .int .i64 0, .bool false, .bool false, .string ⟨#[114, 105, 110, 103, 95, 111, 117, 116, 112, 117, 116]⟩, .int .i64 2, .int .i64 5, .int .i64 7, .int .i64 0, .int .i64 0, .int .i64 0, .int .i64 16, .bool false, .bool false, .string ⟨#[114, 105, 110, 103, 95, 114, 101, 115, 101, 114, 118, 101]⟩, .int .i64 2, .int .i64 1, .int .i64 0, .int .i64 0, .int .i64 0, .int .i64 2, .int .i64 16, .bool true, .bool false, .string ⟨#[114, 105, 110, 103, 95, 115, 117, 98, 109, 105, 116]⟩, .int .i64 10, .int .i64 0, .int .i64 0, .int .i64 0, .int .i64 0, .int .i64 0, .int .i64 0, .bool false, .bool true, .string ⟨#[114, 105, 110, 103, 95, 100, 105, 115, 99, 97, 114, 100]⟩, .int .i64 10, .int .i64 0, .int .i64 0, .int .i64 0, .int .i64 0, .int .i64 0, .int .i64 0, .bool false, .bool true, .string ⟨#[114, 105, 110, 103, 95, 113, 117, 101, 114, 121]⟩, .int .i64 2, .int .i64 0, .int .i64 0, .int .i64 0, .int .i64 0, .int .i64 0, .int .i64 16, .bool false, .bool false, .string ⟨#[115, 111, 99, 107, 95, 108, 111, 111, 107, 117, 112]⟩, .int .i64 8, .int .i64 5, .int .i64 7, .int .i64 0, .int .i64 0, .int .i64 3, .int .i64 0, .bool true, .bool false, .string ⟨#[115, 111, 99, 107, 95, 114, 101, 108, 101, 97, 115, 101]⟩, .int .i64 11, .int .i64 0, .int .i64 0, .int .i64 0, .int .i64 0, .int .i64 0, .int .i64 0, .bool false, .bool true, .string ⟨#[116, 105, 109, 101, 114, 95, 105, 110, 105, 116]⟩, .int .i64 12, .int .i64 2, .int .i64 0, .int .i64 0, .int .i64 0, .int .i64 0, .int .i64 6, .bool false, .bool false, .string ⟨#[116, 105, 109, 101, 114, 95, 99, 97, 108, 108, 98, 97, 99, 107]⟩, .int .i64 12, .int .i64 9, .int .i64 0, .int .i64 0, .int .i64 0, .int .i64 0, .int .i64 0, .bool false, .bool false, .string ⟨#[116, 105, 109, 101, 114, 95, 115, 116, 97, 114, 116]⟩, .int .i64 12, .int .i64 1, .int .i64 0, .int .i64 0, .int .i64 0, .int .i64 0, .int .i64 0, .bool false, .bool false, .string ⟨#[116, 105, 109, 101, 114, 95, 99, 97, 110, 99, 101, 108]⟩, .int .i64 12, .int .i64 0, .int .i64 0, .int .i64 0, .int .i64 0, .int .i64 0, .int .i64 0, .bool false, .bool false, .string ⟨#[100, 121, 110, 95, 114, 101, 115, 101, 114, 118, 101]⟩, .int .i64 2, .int .i64 1, .int .i64 13, .int .i64 0, .int .i64 0, .int .i64 0, .int .i64 16, .bool true, .bool false, .string ⟨#[100, 121, 110, 95, 115, 117, 98, 109, 105, 116]⟩, .int .i64 14, .int .i64 0, .int .i64 0, .int .i64 0, .int .i64 0, .int .i64 0, .int .i64 0, .bool false, .bool true, .string ⟨#[100, 121, 110, 95, 100, 105, 115, 99, 97, 114, 100]⟩, .int .i64 14, .int .i64 0, .int .i64 0, .int .i64 0, .int .i64 0, .int .i64 0, .int .i64 0, .bool false, .bool true, .string ⟨#[100, 121, 110, 95, 109, 101, 109]⟩, .int .i64 5, .int .i64 7, .int .i64 13, .int .i64 0, .int .i64 0, .int .i64 0, .int .i64 0, .bool false, .bool false, .string ⟨#[100, 121, 110, 95, 114, 101, 97, 100]⟩, .int .i64 6, .int .i64 7, .int .i64 14, .int .i64 1, .int .i64 0, .int .i64 0, .int .i64 0, .bool false, .bool false, .string ⟨#[100, 121, 110, 95, 119, 114, 105, 116, 101]⟩, .int .i64 14, .int .i64 1, .int .i64 5, .int .i64 7, .int .i64 0, .int .i64 0, .int .i64 0, .bool false, .bool false, .string ⟨#[100, 121, 110, 95, 100, 97, 116, 97]⟩, .int .i64 14, .int .i64 1, .int .i64 1, .int .i64 0, .int .i64 0, .int .i64 4, .int .i64 0, .bool false, .bool false, .string ⟨#[105, 116, 101, 114, 95, 110, 101, 119]⟩, .int .i64 15, .int .i64 1, .int .i64 1, .int .i64 0, .int .i64 0, .int .i64 0, .int .i64 0, .bool true, .bool false, .string ⟨#[105, 116, 101, 114, 95, 110, 101, 120, 116]⟩, .int .i64 16, .int .i64 0, .int .i64 0, .int .i64 0, .int .i64 0, .int .i64 5, .int .i64 0, .bool false, .bool false, .string ⟨#[105, 116, 101, 114, 95, 100, 114, 111, 112]⟩, .int .i64 16, .int .i64 0, .int .i64 0, .int .i64 0, .int .i64 0, .int .i64 0, .int .i64 0, .bool false, .bool true]
section
variable {P : Program} {w : World} {ops : Array Oper} {rest : List Oper} {o : Oper} {a : Act} {Q : Exit → Act → World → Prop}
theorem wpList_buildV (hgd : o.guard = none) (t : TypeId) (L : List (Nat × Operand)) (ho : o.op = .build t L.toArray) (vs : List (Nat × Value)) (hvs : (L.map fun p => (p.1, a.eval p.2)) = vs) (v : Value)
    (hr : ∀ w, (Instr.build t vs.toArray).run P w = .ok v w) (h : wpList P ops Q rest (a.put o.dst v) w) : wpList P ops Q (o :: rest) a w := by
  refine wpList_plain hgd fun K hK => ?_
  have hr2 := hr w
  subst hvs
  unfold Oper.wp
  simp only [execOp, ho]
  have e : (L.toArray.map fun (x : Nat × Operand) => (x.1, a.eval x.2)) = (L.map fun p => (p.1, a.eval p.2)).toArray := by simp
  simp [e, hr2, Result.andThen]
  exact hK _ _ h
end
set_option linter.unusedSimpArgs false
set_option linter.unusedVariables false
open Go.RowKit

open Go.RowKit

/-! ### proto.Of -/
section
variable {P : Program} {w : World} {ops : Array Oper} {rest : List Oper} {o : Oper} {a : Act} {Q : Exit → Act → World → Prop}
/-- a whole block is written -/
theorem wpList_storeBlk (hgd : o.guard = none) (x v : Operand) (t : TypeId) (hop : o.op = .store t x v) {i0 : TypeInfo} (hi : P.info? t = some i0) (g : Nat) (T : TypeId) (old vs : Array Value)
    (hx : a.eval x = .pointer (some ⟨g, 0, none⟩)) (hv : a.eval v = .agg vs) (hsz : i0.size = vs.size) (hold : old.size = vs.size) (h1 : ∀ y ∈ vs.toList, y.oneCell' = true) (hb : Blk w g T old)
    (hK : ∀ w', Blk w' g T vs → Kept (fun k => k = g) w w' → wpList P ops Q rest (a.put o.dst undef) w') : wpList P ops Q (o :: rest) a w := by
  refine wpList_plain hgd fun K hKK => ?_
  have hst := run_storeCells_at P g 0 T vs.toList 0 old w hb (by rw [Array.length_toList]; omega) h1
  have enew : (old.toList.take (0 + 0) ++ (vs.toList ++ old.toList.drop (0 + 0 + vs.toList.length))).toArray = vs := by
    have : old.toList.drop (0 + 0 + vs.toList.length) = [] := List.drop_eq_nil_of_le (by rw [Array.length_toList, Array.length_toList]; omega)
    rw [this]
    simp
  rw [List.append_assoc, enew] at hst
  have hcv : (a.eval v).cells = vs := by rw [hv]; rfl
  unfold Oper.wp
  simp [execOp, hop, hx, hcv, Instr.storeAt, Instr.sureAddr, storeVar, sizeOf, typeInfo, hi, hst, Result.andThen, hsz]
  exact hKK _ _ (hK _ (setRow_heap w g old vs T (0, 0) hb) ⟨rfl, rfl, rfl, by simp, fun k _ hk => setRow_other w g k _ hk⟩)
end
theorem prL_size (n : Nat) : (prL n).size = 10 := by
  unfold prL
  split <;> rfl
theorem prL_one (n : Nat) : ∀ y ∈ (prL n).toList, y.oneCell' = true := by
  have : (prL n).toList.all (fun y => y.oneCell') = true := by
    unfold prL
    split <;> rfl
  exact List.all_eq_true.1 this
theorem prL_out {n : Int} (h : n < 1 ∨ 28 < n) : prL n.toNat = prV .empty 0 0 0 0 0 0 0 false false := by
  unfold prL
  split <;> first | rfl | omega
theorem results_cell_tmp {P : Program} {fn : Func} {p q : Tmp} {ty : TypeId} (h : fn.results = #[.cell p ty, .tmp q]) (tmps : Array Value) (w : World) (g : Nat) (t : TypeId) (cs : Array Value) (fr : Nat × Nat) (d : TypeDesc) (v : Value)
    (hp : tmps.getD p undef = .pointer (some ⟨g, 0, none⟩)) (hq : tmps.getD q undef = v) (hg : w.heap[g]? = some (.cells cs t fr))
    (hu : P.underlying ty = some d) (hd : (match d with | .struct _ | .array _ _ => true | _ => false) = true) (hi : (P.info? ty).map (·.size) = some cs.size) :
    (results fn tmps).run P w = .ok (.tuple #[.agg cs, v]) w := by
  have hp' : tmps[p]?.getD undef = .pointer (some ⟨g, 0, none⟩) := by simpa using hp
  have hq' : tmps[q]?.getD undef = v := by simpa using hq
  simp [results, h, hp', hq', asAddr, run_loadVar_row w g t ty cs fr d hg hu hd hi]
theorem infoPr : (Tryz.prog.info? 224).map (·.size) = some 10 := by kernel_rfl
def pofE (n : Int) : Int := if n < 1 ∨ 28 < n then 130 else 0
open Go.RowKit

/-! ### rows of sixteen bits -/
theorem wrap16 (x : Int) : IntKind.u16.wrap x = x % 65536 := by
  simp [IntKind.wrap, IntKind.bits, IntKind.signed]
theorem bits_or_u16_nat {a b : Nat} (ha : a < 65536) (hb : b < 65536) : bits .or .u16 (a : Int) (b : Int) = ((a ||| b : Nat) : Int) := by
  have hx : a ||| b < 2 ^ 16 := Nat.or_lt_two_pow (by omega) (by omega)
  have h1 : (BitVec.ofInt 16 (a : Int)).toNat = a := by
    rw [BitVec.ofInt_natCast, BitVec.toNat_ofNat]; exact Nat.mod_eq_of_lt (by omega)
  have h2 : (BitVec.ofInt 16 (b : Int)).toNat = b := by
    rw [BitVec.ofInt_natCast, BitVec.toNat_ofNat]; exact Nat.mod_eq_of_lt (by omega)
  show IntKind.u16.wrap ((BitVec.ofInt 16 (a : Int) ||| BitVec.ofInt 16 (b : Int)).toNat : Int) = _
  rw [BitVec.toNat_or, h1, h2, wrap16]
  omega
/-- a row without those of another one -/
def lessN (a b : Nat) : Nat := a &&& (65535 - b)
theorem or_lt {a b : Nat} (ha : a < 65536) (hb : b < 65536) : a ||| b < 65536 := Nat.or_lt_two_pow (n := 16) (by omega) (by omega)
theorem less_lt {a b : Nat} (ha : a < 65536) : lessN a b < 65536 := by
  unfold lessN
  exact Nat.lt_of_le_of_lt Nat.and_le_left ha
theorem secN_lt (x : In) (h : x.src ≤ 10) : secN x < 2048 := by
  unfold secN
  split
  · exact bitN_lt h
  · omega

/-! ### what a call of a helper reads -/
/-- the numbers of a helper's arguments -/
def cntN (n : Nat) : Nat := match n with
  | 1 => 2
  | 2 => 4
  | 3 => 2
  | 6 => 3
  | 7 => 3
  | 8 => 3
  | 9 => 2
  | 10 => 1
  | 11 => 1
  | 12 => 1
  | 13 => 3
  | 14 => 1
  | 15 => 2
  | 16 => 2
  | 17 => 2
  | 18 => 1
  | 19 => 3
  | 20 => 1
  | 21 => 1
  | 22 => 3
  | 23 => 4
  | 24 => 4
  | 25 => 3
  | 26 => 3
  | 27 => 1
  | 28 => 1
  | _ => 0
def protN (n : Int) : Nat := 2 ^ (cntN n.toNat + 1) - 2
theorem cntN_le (n : Nat) : cntN n ≤ 4 := by
  unfold cntN
  split <;> omega
theorem protN_lt (n : Int) : protN n < 65536 := by
  have h := cntN_le n.toNat
  have := Nat.pow_le_pow_right (n := 2) (by omega) (show cntN n.toNat + 1 ≤ 5 by omega)
  unfold protN
  omega
theorem prL_args (n : Nat) : ∃ nm a0 a1 a2 a3 a4 ret maps ac re, prL n = prV nm a0 a1 a2 a3 a4 ret maps ac re ∧
    (a0 != 0) = decide (0 < cntN n) ∧ (a1 != 0) = decide (1 < cntN n) ∧ (a2 != 0) = decide (2 < cntN n) ∧ (a3 != 0) = decide (3 < cntN n) ∧ (a4 != 0) = decide (4 < cntN n) := by
  unfold prL cntN
  split
  all_goals first
    | exact ⟨_, _, _, _, _, _, _, _, _, _, rfl, rfl, rfl, rfl, rfl, rfl⟩
    | (split <;> first | (exfalso; simp_all; done) | exact ⟨_, _, _, _, _, _, _, _, _, _, rfl, rfl, rfl, rfl, rfl, rfl⟩)


set_option linter.unusedSimpArgs false
set_option linter.unusedVariables false
open Go.RowKit

/-! ### what a jump, an exit, a call reads -/
def jumpN (x : In) : Nat := if (x.op == 149) = true then bitN 0 else if (x.op == 5) = true then 0 else if (x.op != 133) = true then bitN x.dst ||| secN x else if (x.src == 1) = true then 62 else protN x.imm
set_option linter.unusedSimpArgs false
set_option linter.unusedVariables false
open Go.RowKit

/-! ### what an operation reads -/
def readsN (x : In) : Nat := if (clsI x == 1) = true then bitN x.src else if (clsI x == 2) = true then bitN x.dst else if (clsI x == 3) = true then bitN x.dst ||| bitN x.src
  else if (clsI x == 4 || clsI x == 7) = true then (if (codeI x == 13) = true then bitN x.dst else if (codeI x == 11) = true then secN x else bitN x.dst ||| secN x)
  else if (clsI x == 6) = true then bitN x.dst ||| secN x else if (clsI x == 0) = true then 0 else jumpN x
theorem jumpN_lt (x : In) (hd : x.dst ≤ 10) (hs : x.src ≤ 10) : jumpN x < 65536 := by
  have h1 := bitN_lt hd
  have h2 := secN_lt x hs
  have h3 := protN_lt x.imm
  have h4 : bitN x.dst ||| secN x < 65536 := or_lt (by omega) (by omega)
  have h5 : bitN 0 = 1 := rfl
  unfold jumpN
  split
  · omega
  · split
    · omega
    · split
      · exact h4
      · split <;> omega
theorem readsN_lt (x : In) (hd : x.dst ≤ 10) (hs : x.src ≤ 10) : readsN x < 65536 := by
  have h1 := bitN_lt hd
  have h2 := secN_lt x hs
  have h3 := bitN_lt hs
  have h4 : bitN x.dst ||| secN x < 65536 := or_lt (by omega) (by omega)
  have h5 : bitN x.dst ||| bitN x.src < 65536 := or_lt (by omega) (by omega)
  have h6 := jumpN_lt x hd hs
  unfold readsN
  repeat (first | omega | exact h4 | exact h5 | split)
theorem rightB_regs {x : In} (h : rightB x = true) : x.dst ≤ 10 ∧ x.src ≤ 10 := by
  unfold rightB at h
  simp at h
  exact h.2
/-- what a call of Reads tells, and one of Writes -/
def readsR (x : In) : Nat := if rightB x = true then readsN x else 0
def writesR (x : In) : Nat := if rightB x = true then writesN x else 0
set_option maxHeartbeats 4000000 in
theorem lWrites_any (x : In) (w : World) (hx : InOk x) : Calls Tryz.prog 113 #[.agg (inVals x)] w fun e w' => e = .returned (.tuple #[.int .u16 (writesR x), .bool (rightB x)]) ∧ Kept (fun _ => False) w w' := by
  have HR := Lib.hid (fun W => lright_any x W hx)
  have HI := Lib.hid (fun (h : rightB x = true) W => lwrites_any x W hx (rightB_regs h).1)
  have hbB := Blk.new w 75 (inVals x)
  have hkB : Kept (fun _ => False) w (w.alloc (.cells (inVals x) 75)) := (Kept.refl _ w).alloc _
  unfold writesR
  cases h : rightB x
  case false =>
    rw [h] at HR
    simp only [if_false, Bool.false_eq_true]
    clear HI h
    go_enter Tryz.func113, Tryz.ntmps113
    go_wp2_with fail
    refine (HR.out _).mono ?_
    rintro e w1 ⟨rfl, hk1⟩
    go_wp2_with fail
    go_ret2
    exact ⟨rfl, hkB.trans hk1 (fun _ _ h => h)⟩
  case true =>
    have HI2 := Lib.hid (HI.out h)
    rw [h] at HR
    simp only [if_true]
    clear HI h
    go_enter Tryz.func113, Tryz.ntmps113
    go_wp2_with fail
    refine (HR.out _).mono ?_
    rintro e w1 ⟨rfl, hk1⟩
    have hb1 := hk1.blk (fun h => h) hbB
    have x0 := hb1.cell 0
    have x1 := hb1.cell 1
    have x2 := hb1.cell 2
    have x3 := hb1.cell 3
    have x4 := hb1.cell 4
    go_wp2_with fail
    refine (HI2.out _).mono ?_
    rintro e w2 ⟨rfl, rfl⟩
    go_wp2_with fail
    go_ret2
    exact ⟨rfl, (hkB.trans hk1 (fun _ _ h => h)).alloc _⟩


open Go.RowKit

/-! ### the document's helpers -/
def tabR : Array Value := tabV.extract 10 290
def tabRparts : List (Nat × Value) := [(0, .agg (prL 1)), (1, .agg (prL 2)), (2, .agg (prL 3)), (3, .agg (prL 4)), (4, .agg (prL 5)), (5, .agg (prL 6)), (6, .agg (prL 7)), (7, .agg (prL 8)), (8, .agg (prL 9)), (9, .agg (prL 10)), (10, .agg (prL 11)), (11, .agg (prL 12)), (12, .agg (prL 13)), (13, .agg (prL 14)), (14, .agg (prL 15)), (15, .agg (prL 16)), (16, .agg (prL 17)), (17, .agg (prL 18)), (18, .agg (prL 19)), (19, .agg (prL 20)), (20, .agg (prL 21)), (21, .agg (prL 22)), (22, .agg (prL 23)), (23, .agg (prL 24)), (24, .agg (prL 25)), (25, .agg (prL 26)), (26, .agg (prL 27)), (27, .agg (prL 28))]
theorem tabR_build (w : World) : (Instr.build 260 tabRparts.toArray).run Tryz.prog w = .ok (.agg tabR) w := by kernel_rfl
theorem tabR_size : tabR.size = 280 := by kernel_rfl
theorem tabR_one : ∀ y ∈ tabR.toList, y.oneCell' = true := by
  have : tabR.toList.all (fun y => y.oneCell') = true := by kernel_rfl
  exact List.all_eq_true.1 this
theorem tabRc1 : tabR.extract 0 10 = prL 1 := by kernel_rfl
theorem tabRc2 : tabR.extract 10 20 = prL 2 := by kernel_rfl
theorem tabRc3 : tabR.extract 20 30 = prL 3 := by kernel_rfl
theorem tabRc4 : tabR.extract 30 40 = prL 4 := by kernel_rfl
theorem tabRc5 : tabR.extract 40 50 = prL 5 := by kernel_rfl
theorem tabRc6 : tabR.extract 50 60 = prL 6 := by kernel_rfl
theorem tabRc7 : tabR.extract 60 70 = prL 7 := by kernel_rfl
theorem tabRc8 : tabR.extract 70 80 = prL 8 := by kernel_rfl
theorem tabRc9 : tabR.extract 80 90 = prL 9 := by kernel_rfl
theorem tabRc10 : tabR.extract 90 100 = prL 10 := by kernel_rfl
theorem tabRc11 : tabR.extract 100 110 = prL 11 := by kernel_rfl
theorem tabRc12 : tabR.extract 110 120 = prL 12 := by kernel_rfl
theorem tabRc13 : tabR.extract 120 130 = prL 13 := by kernel_rfl
theorem tabRc14 : tabR.extract 130 140 = prL 14 := by kernel_rfl
theorem tabRc15 : tabR.extract 140 150 = prL 15 := by kernel_rfl
theorem tabRc16 : tabR.extract 150 160 = prL 16 := by kernel_rfl
theorem tabRc17 : tabR.extract 160 170 = prL 17 := by kernel_rfl
theorem tabRc18 : tabR.extract 170 180 = prL 18 := by kernel_rfl
theorem tabRc19 : tabR.extract 180 190 = prL 19 := by kernel_rfl
theorem tabRc20 : tabR.extract 190 200 = prL 20 := by kernel_rfl
theorem tabRc21 : tabR.extract 200 210 = prL 21 := by kernel_rfl
theorem tabRc22 : tabR.extract 210 220 = prL 22 := by kernel_rfl
theorem tabRc23 : tabR.extract 220 230 = prL 23 := by kernel_rfl
theorem tabRc24 : tabR.extract 230 240 = prL 24 := by kernel_rfl
theorem tabRc25 : tabR.extract 240 250 = prL 25 := by kernel_rfl
theorem tabRc26 : tabR.extract 250 260 = prL 26 := by kernel_rfl
theorem tabRc27 : tabR.extract 260 270 = prL 27 := by kernel_rfl
theorem tabRc28 : tabR.extract 270 280 = prL 28 := by kernel_rfl
theorem tabR_at (m : Nat) (h : m < 28) (k : Nat) (hk : k < 10) : tabR[m * 10 + k]? = (prL (m + 1))[k]? := by
  have e : tabR.extract (m * 10) ((m + 1) * 10) = prL (m + 1) := by
    have : m = 0 ∨ m = 1 ∨ m = 2 ∨ m = 3 ∨ m = 4 ∨ m = 5 ∨ m = 6 ∨ m = 7 ∨ m = 8 ∨ m = 9 ∨ m = 10 ∨ m = 11 ∨ m = 12 ∨ m = 13 ∨ m = 14 ∨ m = 15 ∨ m = 16 ∨ m = 17 ∨ m = 18 ∨ m = 19 ∨ m = 20 ∨ m = 21 ∨ m = 22 ∨ m = 23 ∨ m = 24 ∨ m = 25 ∨ m = 26 ∨ m = 27 := by omega
    rcases this with rfl | rfl | rfl | rfl | rfl | rfl | rfl | rfl | rfl | rfl | rfl | rfl | rfl | rfl | rfl | rfl | rfl | rfl | rfl | rfl | rfl | rfl | rfl | rfl | rfl | rfl | rfl | rfl
    · exact tabRc1
    · exact tabRc2
    · exact tabRc3
    · exact tabRc4
    · exact tabRc5
    · exact tabRc6
    · exact tabRc7
    · exact tabRc8
    · exact tabRc9
    · exact tabRc10
    · exact tabRc11
    · exact tabRc12
    · exact tabRc13
    · exact tabRc14
    · exact tabRc15
    · exact tabRc16
    · exact tabRc17
    · exact tabRc18
    · exact tabRc19
    · exact tabRc20
    · exact tabRc21
    · exact tabRc22
    · exact tabRc23
    · exact tabRc24
    · exact tabRc25
    · exact tabRc26
    · exact tabRc27
    · exact tabRc28
  rw [← e, Array.getElem?_extract, if_pos (by rw [tabR_size]; omega)]
theorem blk_new' (w : World) (t : TypeId) (cs : Array Value) {g : Nat} (hg : g = w.heap.size) : Blk (w.alloc (.cells cs t)) g t cs := by subst hg; exact Blk.new w t cs
theorem infoTR : (Tryz.prog.info? 260).map (·.size) = some 280 := by kernel_rfl
set_option maxHeartbeats 16000000 in
set_option maxRecDepth 100000 in
theorem rOf_any (n : Int) (w : World) : Calls Tryz.prog 123 #[.int .i64 n] w fun e w' => e = .returned (.tuple #[.agg (prL n.toNat), .int .i64 (pofE n)]) ∧ Kept (fun _ => False) w w' := by
  have HT := Lib.hid tabR_build
  obtain ⟨i0, hi0, hi1⟩ := Option.map_eq_some_iff.1 infoPr
  obtain ⟨i1, hi2, hi3⟩ := Option.map_eq_some_iff.1 infoTR
  have hb := Blk.new w 224 (prV .empty 0 0 0 0 0 0 0 false false)
  have hkn : Kept (fun _ => False) w (w.alloc (.cells (prV .empty 0 0 0 0 0 0 0 false false) 224)) := (Kept.refl _ w).alloc _
  go_enter Tryz.func123, Tryz.ntmps123
  go_upto_region 4 with (first
    | (refine wpList_storeBlk rfl _ _ 260 rfl hi2 (w.heap.size + 1) 260 _ tabR rfl rfl (by rw [hi3, tabR_size]) ?os tabR_one (blk_new' _ _ _ (by show _ = (Array.push _ _).size; rw [Array.size_push])) ?hk; (case os => rw [tabR_size]; rfl); intro w6 hb6 hk6)
    | (refine wpList_buildV rfl 260 _ rfl tabRparts rfl (.agg tabR) HT.out ?_))
  have hb2 := hk6.blk (fun e => by have e : w.heap.size = w.heap.size + 1 := e; omega) (hb.alloc _)
  have hk2 := (hkn.alloc _).trans hk6 (fun k hk e => by have e : k = w.heap.size + 1 := e; omega)
  clear hk6 hkn hb HT
  by_cases h : n < 1 ∨ 28 < n
  case pos =>
    have heq : (Ending.returned (.tuple #[.agg (prV .empty 0 0 0 0 0 0 0 false false), .int .i64 130])) = .returned (.tuple #[.agg (prL n.toNat), .int .i64 (pofE n)]) := by rw [prL_out h, show pofE n = 130 from if_pos h]
    by_cases h1 : n < 1
    all_goals
      go_wp2_with (refine wpList_storeBlk rfl _ _ 224 rfl hi0 w.heap.size 224 (prV .empty 0 0 0 0 0 0 0 false false) (prV .empty 0 0 0 0 0 0 0 false false) rfl rfl (by rw [hi1]; rfl) rfl (by intro y hy; simp at hy; rcases hy with rfl | rfl | rfl <;> rfl) hb2 ?_; intro w7 hb7 hk7)
      refine bodyPost_ret (v := .tuple #[.agg (prV .empty 0 0 0 0 0 0 0 false false), .int .i64 130]) (results_cell_tmp rfl _ _ w.heap.size _ _ (0, 0) _ _ rfl rfl hb7 Tryz.underlying224 rfl (by kernel_rfl)) rfl ⟨heq, ?_⟩
      exact hk2.trans hk7 (fun k hk e => by have e : k = w.heap.size := e; omega)
  case neg =>
    obtain ⟨m, rfl⟩ : ∃ m : Nat, n = (m : Int) + 1 := ⟨(n - 1).toNat, by omega⟩
    have hm : m < 28 := by omega
    have hcell := fun k (hk : k < 10) => (hb6.cell (m * 10 + k)).trans (tabR_at m hm k hk)
    have hsz := prL_size (m + 1)
    have hone := prL_one (m + 1)
    obtain ⟨nm, a0, a1, a2, a3, a4, ret, maps, ac, re, hpr, -⟩ := prL_args (m + 1)
    have heq : (Ending.returned (.tuple #[.agg (prV nm a0 a1 a2 a3 a4 ret maps ac re), .int .i64 0])) = .returned (.tuple #[.agg (prL ((m : Int) + 1).toNat), .int .i64 (pofE ((m : Int) + 1))]) := by rw [show pofE ((m : Int) + 1) = 0 from if_neg h, show ((m : Int) + 1).toNat = m + 1 from by omega, hpr]
    rw [hpr] at hcell hsz hone
    have c0 : w6.cell? ⟨w.heap.size + 1, m * 10, none⟩ = some (.string nm) := hcell 0 (by omega)
    have c1 : w6.cell? ⟨w.heap.size + 1, m * 10 + 1, none⟩ = some (.int .i64 a0) := hcell 1 (by omega)
    have c2 : w6.cell? ⟨w.heap.size + 1, m * 10 + 2, none⟩ = some (.int .i64 a1) := hcell 2 (by omega)
    have c3 : w6.cell? ⟨w.heap.size + 1, m * 10 + 3, none⟩ = some (.int .i64 a2) := hcell 3 (by omega)
    have c4 : w6.cell? ⟨w.heap.size + 1, m * 10 + 4, none⟩ = some (.int .i64 a3) := hcell 4 (by omega)
    have c5 : w6.cell? ⟨w.heap.size + 1, m * 10 + 5, none⟩ = some (.int .i64 a4) := hcell 5 (by omega)
    have c6 : w6.cell? ⟨w.heap.size + 1, m * 10 + 6, none⟩ = some (.int .i64 ret) := hcell 6 (by omega)
    have c7 : w6.cell? ⟨w.heap.size + 1, m * 10 + 7, none⟩ = some (.int .i64 maps) := hcell 7 (by omega)
    have c8 : w6.cell? ⟨w.heap.size + 1, m * 10 + 8, none⟩ = some (.bool ac) := hcell 8 (by omega)
    have c9 : w6.cell? ⟨w.heap.size + 1, m * 10 + 9, none⟩ = some (.bool re) := hcell 9 (by omega)
    clear hcell hpr
    go_wp2_with (refine wpList_storeBlk rfl _ _ 224 rfl hi0 w.heap.size 224 (prV .empty 0 0 0 0 0 0 0 false false) (prV nm a0 a1 a2 a3 a4 ret maps ac re) rfl rfl (by rw [hi1]; rfl) rfl hone hb2 ?_; intro w7 hb7 hk7)
    refine bodyPost_ret (v := .tuple #[.agg (prV nm a0 a1 a2 a3 a4 ret maps ac re), .int .i64 0]) (results_cell_tmp rfl _ _ w.heap.size _ _ (0, 0) _ _ rfl rfl hb7 Tryz.underlying224 rfl (by kernel_rfl)) rfl ⟨heq, ?_⟩
    exact hk2.trans hk7 (fun k hk e => by have e : k = w.heap.size := e; omega)


set_option linter.unusedSimpArgs false
set_option linter.unusedVariables false
open Go.RowKit

/-! ### the document's Reads and Writes -/
set_option maxHeartbeats 4000000 in
set_option maxRecDepth 100000 in
theorem rCount_any (n : Nat) (w : World) : Calls Tryz.prog 124 #[.agg (prL n)] w fun e w' => e = .returned (.int .i64 (cntN n)) ∧ Kept (fun _ => False) w w' := by
  obtain ⟨nm, a0, a1, a2, a3, a4, ret, maps, ac, re, hpr, ha0, ha1, ha2, ha3, ha4⟩ := prL_args n
  have hc4 := cntN_le n
  rw [hpr]
  generalize cntN n = c at *
  have HA : Hid ((a0 != 0) = decide (0 < c) ∧ (a1 != 0) = decide (1 < c) ∧ (a2 != 0) = decide (2 < c) ∧ (a3 != 0) = decide (3 < c) ∧ (a4 != 0) = decide (4 < c)) := Lib.hid ⟨ha0, ha1, ha2, ha3, ha4⟩
  clear hpr ha0 ha1 ha2 ha3 ha4
  go_enter Tryz.func124, Tryz.ntmps124
  go_wp2_with fail
  go_loopw [3] (fun iv wr => ∃ j : Int, iv = .int .i64 j ∧ 0 ≤ j ∧ j ≤ c ∧ w.alloc (.cells (prV nm a0 a1 a2 a3 a4 ret maps ac re) 224) = wr) (fun iv _ => 5 - (intOf iv).toNat)
  case atStart => exact ⟨0, rfl, by omega, by omega, rfl⟩
  case round =>
    obtain ⟨j, rfl, hj0, hj, rfl⟩ := hrel
    have hj6 : j = 0 ∨ j = 1 ∨ j = 2 ∨ j = 3 ∨ j = 4 := by omega
    clear hj0
    rcases hj6 with rfl | rfl | rfl | rfl | rfl
    · have hq := HA.out.1
      cases hd : decide (0 < c)
      case false =>
        rw [hd] at hq
        go_wp2_with fail
        have : c = 0 := by have := of_decide_eq_false hd; omega
        subst this
        go_ret
        exact ⟨rfl, (Kept.refl _ w).alloc _⟩
      case true =>
        rw [hd] at hq
        go_wp2_with fail
        go_roundw
        case rel => exact ⟨1, rfl, by omega, by have := of_decide_eq_true hd; omega, by first | trivial | rfl⟩
        case measure => simp [intOf]
    · have hq := HA.out.2.1
      cases hd : decide (1 < c)
      case false =>
        rw [hd] at hq
        go_wp2_with fail
        have : c = 1 := by have := of_decide_eq_false hd; omega
        subst this
        go_ret
        exact ⟨rfl, (Kept.refl _ w).alloc _⟩
      case true =>
        rw [hd] at hq
        go_wp2_with fail
        go_roundw
        case rel => exact ⟨2, rfl, by omega, by have := of_decide_eq_true hd; omega, by first | trivial | rfl⟩
        case measure => simp [intOf]
    · have hq := HA.out.2.2.1
      cases hd : decide (2 < c)
      case false =>
        rw [hd] at hq
        go_wp2_with fail
        have : c = 2 := by have := of_decide_eq_false hd; omega
        subst this
        go_ret
        exact ⟨rfl, (Kept.refl _ w).alloc _⟩
      case true =>
        rw [hd] at hq
        go_wp2_with fail
        go_roundw
        case rel => exact ⟨3, rfl, by omega, by have := of_decide_eq_true hd; omega, by first | trivial | rfl⟩
        case measure => simp [intOf]
    · have hq := HA.out.2.2.2.1
      cases hd : decide (3 < c)
      case false =>
        rw [hd] at hq
        go_wp2_with fail
        have : c = 3 := by have := of_decide_eq_false hd; omega
        subst this
        go_ret
        exact ⟨rfl, (Kept.refl _ w).alloc _⟩
      case true =>
        rw [hd] at hq
        go_wp2_with fail
        go_roundw
        case rel => exact ⟨4, rfl, by omega, by have := of_decide_eq_true hd; omega, by first | trivial | rfl⟩
        case measure => simp [intOf]
    · have hq := HA.out.2.2.2.2
      cases hd : decide (4 < c)
      case false =>
        rw [hd] at hq
        go_wp2_with fail
        have : c = 4 := by have := of_decide_eq_false hd; omega
        subst this
        go_ret
        exact ⟨rfl, (Kept.refl _ w).alloc _⟩
      case true =>
        rw [hd] at hq
        go_wp2_with fail
        go_roundw
        case rel => exact ⟨5, rfl, by omega, by have := of_decide_eq_true hd; omega, by first | trivial | rfl⟩
        case measure => simp [intOf]
theorem cmp6 {x : In} (hk : knownB x = true) (h6 : clsI x = 6) : cmpR x = true := by
  have e0 : codeI x ≠ 0 := fun h0 => by
    unfold knownB jumpB wholeJ at hk
    rw [h6, h0] at hk
    simp at hk
  have e8 : codeI x ≠ 8 := fun h0 => by
    unfold knownB jumpB wholeJ at hk
    rw [h6, h0] at hk
    simp at hk
  have e9 : codeI x ≠ 9 := fun h0 => by
    unfold knownB jumpB wholeJ at hk
    rw [h6, h0] at hk
    simp at hk
  unfold cmpR
  simp [h6, e0, e8, e9]
def docJ (x : In) : Nat := if cmpR x = true then bitN x.dst ||| secN x else if (codeI x == 9) = true then 1 else if (codeI x == 8) = true then (if (x.src == 1) = true then 62 else protN x.imm) else 0
theorem docJ_eq {x : In} (h : InOk x) (hk : knownB x = true) (hc : clsI x = 5 ∨ clsI x = 6) : docJ x = readsN x := by
  rcases hc with hc | hc
  · have e8 := isR8 h hk
    have e9 := isR9 h hk
    have e0 := isR0 h hk
    unfold isR at e8 e9 e0
    have hcc : (clsI x == 5) = true := by rw [hc]; rfl
    rw [hcc, Bool.true_and] at e8 e9 e0
    have er : readsN x = jumpN x := by unfold readsN; rw [hc]; rfl
    rw [er]
    have ec : cmpR x = ((((x.op != 5)) && (x.op != 133)) && (x.op != 149)) := by
      unfold cmpR
      rw [hcc]
      simp only [bne, Bool.true_or, Bool.true_and]
      rw [e0, e8, e9]
    unfold docJ jumpN
    rw [ec, e8, e9]
    by_cases h149 : x.op = 149
    · rw [h149]; rfl
    by_cases h5 : x.op = 5
    · rw [h5]; rfl
    by_cases h133 : x.op = 133
    · rw [h133]; rfl
    have b1 : (x.op == 149) = false := by simpa using h149
    have b2 : (x.op == 5) = false := by simpa using h5
    have b3 : (x.op == 133) = false := by simpa using h133
    simp only [bne, b1, b2, b3]
    rfl
  · have ec := cmp6 hk hc
    unfold docJ readsN
    rw [ec, hc]
    rfl
theorem protN_out {n : Int} (h : n < 1 ∨ 28 < n) : protN n = 0 := by
  have : cntN n.toNat = 0 := by
    unfold cntN
    split <;> first | rfl | omega
  unfold protN
  rw [this]
theorem secN_t {x : In} (h : xB x = true) : secN x = bitN x.src := by unfold secN; rw [if_pos h]
theorem secN_f {x : In} (h : xB x = false) : secN x = 0 := by unfold secN; rw [if_neg (by rw [h]; decide)]
set_option maxHeartbeats 16000000 in
set_option maxRecDepth 100000 in
theorem rReads_any (x : In) (w : World) (hx : InOk x) : Calls Tryz.prog 70 #[.agg (inVals x)] w fun e w' => e = .returned (.tuple #[.int .u16 (readsR x), .bool (rightB x)]) ∧ Kept (fun _ => False) w w' := by
  have HK := Lib.hid (fun W => rknown_any x W hx)
  have hbB := Blk.new w 75 (inVals x)
  have hkB : Kept (fun _ => False) w (w.alloc (.cells (inVals x) 75)) := (Kept.refl _ w).alloc _
  cases hr : rightB x
  case false =>
    have e0 : readsR x = 0 := by unfold readsR; rw [if_neg (by rw [hr]; decide)]
    rw [e0]
    unfold rightB at hr
    obtain ⟨kn, hkn⟩ : ∃ kn, knownB x = kn := ⟨_, rfl⟩
    rw [hkn] at HK hr
    cases kn
    case false =>
      clear hr
      go_enter Tryz.func70, Tryz.ntmps70
      go_wp2_with fail
      refine (HK.out _).mono ?_
      rintro e w1 ⟨rfl, hk1⟩
      go_wp2_with fail
      go_ret2
      exact ⟨rfl, hkB.trans hk1 (fun _ _ h => h)⟩
    case true =>
      have hgt : 10 < x.dst ∨ 10 < x.src := by
        simp at hr
        omega
      clear hr
      by_cases hd : 10 < x.dst
      all_goals
        have hd2 : decide (10 < x.dst) = decide (10 < x.dst) := rfl
        go_enter Tryz.func70, Tryz.ntmps70
        go_wp2_with fail
        refine (HK.out _).mono ?_
        rintro e w1 ⟨rfl, hk1⟩
        have hb1 := hk1.blk (fun h => h) hbB
        have x0 := hb1.cell 0
        have x1 := hb1.cell 1
        have x2 := hb1.cell 2
        have x3 := hb1.cell 3
        have x4 := hb1.cell 4
        go_wp2_with fail
        go_ret2
        exact ⟨rfl, hkB.trans hk1 (fun _ _ h => h)⟩
  case true =>
    have er : readsR x = readsN x := by unfold readsR; rw [if_pos hr]
    rw [er]
    obtain ⟨hd, hs⟩ := rightB_regs hr
    have hkn : knownB x = true := by
      unfold rightB at hr
      simp at hr
      exact hr.1
    rw [hkn] at HK
    have HD := Lib.hid (fun W => rbit_any x.dst W ⟨hx.dst.1, hd⟩)
    have HS := Lib.hid (fun W => rbit_any x.src W ⟨hx.src.1, hs⟩)
    have HO := Lib.hid (fun W => rcode_any x W hx)
    have HX := Lib.hid (fun W => rx_any x W hx)
    have HC := Lib.hid (fun W => rclass_any x W hx)
    have HM := Lib.hid (fun W => rcompares_any x W hx)
    have HP := Lib.hid (fun W => rOf_any x.imm W)
    have HN := Lib.hid (fun W => rCount_any x.imm.toNat W)
    have hld := bitN_lt hd
    have hls := bitN_lt hs
    have hor2 := bits_or_u16_nat (show bitN x.dst < 65536 by omega) (show bitN x.src < 65536 by omega)
    have hor3 : bits .or .u16 0 (bitN x.src : Int) = ((bitN x.src : Nat) : Int) := by
      have := bits_or_u16_nat (show 0 < 65536 by omega) (show bitN x.src < 65536 by omega)
      rw [Nat.zero_or] at this
      exact this
    have him := hx.imm
    have hxd := hx.dst
    have hxs := hx.src
    have hcs : clsI x = 0 ∨ clsI x = 1 ∨ clsI x = 2 ∨ clsI x = 3 ∨ clsI x = 4 ∨ clsI x = 7 ∨ (clsI x = 5 ∨ clsI x = 6) := by unfold clsI; omega
    have EJ := Lib.hid (docJ_eq hx hkn)
    have hrn : Hid (readsN x = readsN x) := Lib.hid rfl
    obtain ⟨r, hrr⟩ : ∃ r, readsN x = r := ⟨_, rfl⟩
    rw [hrr] at EJ ⊢
    have HR := Lib.hid hrr
    clear hrr hrn er hr hkn
    rcases hcs with hcl | hcl | hcl | hcl | hcl | hcl | hcl
    · rw [hcl] at HC
      have hr : r = 0 := by rw [← HR.out]; unfold readsN; rw [hcl]; rfl
      clear HR EJ hcl
      subst hr
      go_enter Tryz.func70, Tryz.ntmps70
      go_wp2_with fail
      refine (HK.out _).mono ?_
      rintro e w1 ⟨rfl, hk1⟩
      have hb1 := hk1.blk (fun h => h) hbB
      have x0 := hb1.cell 0
      have x1 := hb1.cell 1
      have x2 := hb1.cell 2
      have x3 := hb1.cell 3
      have x4 := hb1.cell 4
      have hlt1 := hb1.lt
      have hlt2 : w.heap.size < w1.heap.size + 1 := by omega
      have hlt3 : w.heap.size < w1.heap.size + 1 + 1 := by omega
      have hlt4 : w.heap.size < w1.heap.size + 1 + 1 + 1 := by omega
      have hK1 := hkB.trans hk1 (fun _ _ h => h)
      go_wp2_with (first
        | (go_at_call 27; refine (HO.out _).mono ?_; rintro e w2 ⟨rfl, rfl⟩)
        | (go_at_call 28; refine (HX.out _).mono ?_; rintro e w2 ⟨rfl, rfl⟩)
        | (go_at_call 26; refine (HC.out _).mono ?_; rintro e w2 ⟨rfl, rfl⟩)
        | (go_at_call 119; refine (HD.out _).mono ?_; rintro e w2 ⟨rfl, rfl⟩)
        | (go_at_call 119; refine (HS.out _).mono ?_; rintro e w2 ⟨rfl, rfl⟩))
      go_ret2
      exact ⟨rfl, by repeat (first | exact hK1 | refine Kept.alloc ?_ _ | refine Kept.drew ?_)⟩
    · rw [hcl] at HC
      have hr : r = bitN x.src := by rw [← HR.out]; unfold readsN; rw [hcl]; rfl
      clear HR EJ hcl
      subst hr
      go_enter Tryz.func70, Tryz.ntmps70
      go_wp2_with fail
      refine (HK.out _).mono ?_
      rintro e w1 ⟨rfl, hk1⟩
      have hb1 := hk1.blk (fun h => h) hbB
      have x0 := hb1.cell 0
      have x1 := hb1.cell 1
      have x2 := hb1.cell 2
      have x3 := hb1.cell 3
      have x4 := hb1.cell 4
      have hlt1 := hb1.lt
      have hlt2 : w.heap.size < w1.heap.size + 1 := by omega
      have hlt3 : w.heap.size < w1.heap.size + 1 + 1 := by omega
      have hlt4 : w.heap.size < w1.heap.size + 1 + 1 + 1 := by omega
      have hK1 := hkB.trans hk1 (fun _ _ h => h)
      go_wp2_with (first
        | (go_at_call 27; refine (HO.out _).mono ?_; rintro e w2 ⟨rfl, rfl⟩)
        | (go_at_call 28; refine (HX.out _).mono ?_; rintro e w2 ⟨rfl, rfl⟩)
        | (go_at_call 26; refine (HC.out _).mono ?_; rintro e w2 ⟨rfl, rfl⟩)
        | (go_at_call 119; refine (HD.out _).mono ?_; rintro e w2 ⟨rfl, rfl⟩)
        | (go_at_call 119; refine (HS.out _).mono ?_; rintro e w2 ⟨rfl, rfl⟩))
      go_ret2
      exact ⟨rfl, by repeat (first | exact hK1 | refine Kept.alloc ?_ _ | refine Kept.drew ?_)⟩
    · rw [hcl] at HC
      have hr : r = bitN x.dst := by rw [← HR.out]; unfold readsN; rw [hcl]; rfl
      clear HR EJ hcl
      subst hr
      go_enter Tryz.func70, Tryz.ntmps70
      go_wp2_with fail
      refine (HK.out _).mono ?_
      rintro e w1 ⟨rfl, hk1⟩
      have hb1 := hk1.blk (fun h => h) hbB
      have x0 := hb1.cell 0
      have x1 := hb1.cell 1
      have x2 := hb1.cell 2
      have x3 := hb1.cell 3
      have x4 := hb1.cell 4
      have hlt1 := hb1.lt
      have hlt2 : w.heap.size < w1.heap.size + 1 := by omega
      have hlt3 : w.heap.size < w1.heap.size + 1 + 1 := by omega
      have hlt4 : w.heap.size < w1.heap.size + 1 + 1 + 1 := by omega
      have hK1 := hkB.trans hk1 (fun _ _ h => h)
      go_wp2_with (first
        | (go_at_call 27; refine (HO.out _).mono ?_; rintro e w2 ⟨rfl, rfl⟩)
        | (go_at_call 28; refine (HX.out _).mono ?_; rintro e w2 ⟨rfl, rfl⟩)
        | (go_at_call 26; refine (HC.out _).mono ?_; rintro e w2 ⟨rfl, rfl⟩)
        | (go_at_call 119; refine (HD.out _).mono ?_; rintro e w2 ⟨rfl, rfl⟩)
        | (go_at_call 119; refine (HS.out _).mono ?_; rintro e w2 ⟨rfl, rfl⟩))
      go_ret2
      exact ⟨rfl, by repeat (first | exact hK1 | refine Kept.alloc ?_ _ | refine Kept.drew ?_)⟩
    · rw [hcl] at HC
      have hr : r = bitN x.dst ||| bitN x.src := by rw [← HR.out]; unfold readsN; rw [hcl]; rfl
      clear HR EJ hcl
      subst hr
      go_enter Tryz.func70, Tryz.ntmps70
      go_wp2_with fail
      refine (HK.out _).mono ?_
      rintro e w1 ⟨rfl, hk1⟩
      have hb1 := hk1.blk (fun h => h) hbB
      have x0 := hb1.cell 0
      have x1 := hb1.cell 1
      have x2 := hb1.cell 2
      have x3 := hb1.cell 3
      have x4 := hb1.cell 4
      have hlt1 := hb1.lt
      have hlt2 : w.heap.size < w1.heap.size + 1 := by omega
      have hlt3 : w.heap.size < w1.heap.size + 1 + 1 := by omega
      have hlt4 : w.heap.size < w1.heap.size + 1 + 1 + 1 := by omega
      have hK1 := hkB.trans hk1 (fun _ _ h => h)
      go_wp2_with (first
      | (go_at_call 27; refine (HO.out _).mono ?_; rintro e w2 ⟨rfl, rfl⟩)
      | (go_at_call 28; refine (HX.out _).mono ?_; rintro e w2 ⟨rfl, rfl⟩)
      | (go_at_call 26; refine (HC.out _).mono ?_; rintro e w2 ⟨rfl, rfl⟩)
      | (go_at_call 119; refine (HD.out _).mono ?_; rintro e w2 ⟨rfl, rfl⟩)
      | (go_at_call 119; refine (HS.out _).mono ?_; rintro e w2 ⟨rfl, rfl⟩))
      refine wp_region_mix0 [.w, .l, .k, .w, .l, .k, .w, .w, .w] (by kernel_rfl) (by kernel_rfl) ?_
      refine mix_w1 ?_; go_big_quiet_step (fail); refine wpQuiet_nil ?_
      refine mix_l1 rfl ?_; go_big_quiet_step (fail); refine wpQuiet_nil ?_
      refine mix_k rfl fun Q' hQ' => ?_
      go_wp2_with (go_at_call 119; refine (HD.out _).mono ?_; rintro e w2 ⟨rfl, rfl⟩)
      refine hQ' _ _ rfl ?_
      clear hQ' Q'
      refine mix_w1 ?_; go_big_quiet_step (fail); refine wpQuiet_nil ?_
      refine mix_l1 rfl ?_; go_big_quiet_step (fail); refine wpQuiet_nil ?_
      refine mix_k rfl fun Q' hQ' => ?_
      go_wp2_with (go_at_call 119; refine (HS.out _).mono ?_; rintro e w2 ⟨rfl, rfl⟩)
      refine hQ' _ _ rfl ?_
      clear hQ' Q'
      repeat (refine mix_w1 ?_; go_big_quiet_step (fail); refine wpQuiet_nil ?_)
      refine mix_done ?_
      go_wp2_with fail
      go_ret2
      exact ⟨rfl, by repeat (first | exact hK1 | refine Kept.alloc ?_ _ | refine Kept.drew ?_)⟩
    · rw [hcl] at HC
      have hr : r = (if (codeI x == 13) = true then bitN x.dst else if (codeI x == 11) = true then secN x else bitN x.dst ||| secN x) := by rw [← HR.out]; unfold readsN; rw [hcl]; rfl
      clear HR EJ hcl
      have s0 := @secN_t x
      have s1 := @secN_f x
      obtain ⟨xb, hxb⟩ : ∃ xb, xB x = xb := ⟨_, rfl⟩
      rw [hxb] at HX s0 s1
      clear hxb
      obtain ⟨co, hco⟩ : ∃ co, codeI x = co := ⟨_, rfl⟩
      rw [hco] at HO hr
      clear hco
      by_cases h13 : co = 13
      · subst h13
        rw [if_pos (show ((13 : Int) == 13) = true from rfl)] at hr
        subst hr
        clear s0 s1
        cases xb
        all_goals
          go_enter Tryz.func70, Tryz.ntmps70
          go_wp2_with fail
          refine (HK.out _).mono ?_
          rintro e w1 ⟨rfl, hk1⟩
          have hb1 := hk1.blk (fun h => h) hbB
          have x0 := hb1.cell 0
          have x1 := hb1.cell 1
          have x2 := hb1.cell 2
          have x3 := hb1.cell 3
          have x4 := hb1.cell 4
          have hlt1 := hb1.lt
          have hlt2 : w.heap.size < w1.heap.size + 1 := by omega
          have hlt3 : w.heap.size < w1.heap.size + 1 + 1 := by omega
          have hlt4 : w.heap.size < w1.heap.size + 1 + 1 + 1 := by omega
          have hK1 := hkB.trans hk1 (fun _ _ h => h)
          go_wp2_with (first
            | (go_at_call 27; refine (HO.out _).mono ?_; rintro e w2 ⟨rfl, rfl⟩)
            | (go_at_call 28; refine (HX.out _).mono ?_; rintro e w2 ⟨rfl, rfl⟩)
            | (go_at_call 26; refine (HC.out _).mono ?_; rintro e w2 ⟨rfl, rfl⟩)
            | (go_at_call 119; refine (HD.out _).mono ?_; rintro e w2 ⟨rfl, rfl⟩)
            | (go_at_call 119; refine (HS.out _).mono ?_; rintro e w2 ⟨rfl, rfl⟩))
          go_ret2
          exact ⟨rfl, by repeat (first | exact hK1 | refine Kept.alloc ?_ _ | refine Kept.drew ?_)⟩
      by_cases h11 : co = 11
      · subst h11
        rw [if_neg (by decide), if_pos (show ((11 : Int) == 11) = true from rfl)] at hr
        cases xb
        case false =>
          rw [s1 rfl] at hr
          subst hr
          clear s0 s1
          go_enter Tryz.func70, Tryz.ntmps70
          go_wp2_with fail
          refine (HK.out _).mono ?_
          rintro e w1 ⟨rfl, hk1⟩
          have hb1 := hk1.blk (fun h => h) hbB
          have x0 := hb1.cell 0
          have x1 := hb1.cell 1
          have x2 := hb1.cell 2
          have x3 := hb1.cell 3
          have x4 := hb1.cell 4
          have hlt1 := hb1.lt
          have hlt2 : w.heap.size < w1.heap.size + 1 := by omega
          have hlt3 : w.heap.size < w1.heap.size + 1 + 1 := by omega
          have hlt4 : w.heap.size < w1.heap.size + 1 + 1 + 1 := by omega
          have hK1 := hkB.trans hk1 (fun _ _ h => h)
          go_wp2_with (first
            | (go_at_call 27; refine (HO.out _).mono ?_; rintro e w2 ⟨rfl, rfl⟩)
            | (go_at_call 28; refine (HX.out _).mono ?_; rintro e w2 ⟨rfl, rfl⟩)
            | (go_at_call 26; refine (HC.out _).mono ?_; rintro e w2 ⟨rfl, rfl⟩)
            | (go_at_call 119; refine (HD.out _).mono ?_; rintro e w2 ⟨rfl, rfl⟩)
            | (go_at_call 119; refine (HS.out _).mono ?_; rintro e w2 ⟨rfl, rfl⟩))
          go_ret2
          exact ⟨rfl, by repeat (first | exact hK1 | refine Kept.alloc ?_ _ | refine Kept.drew ?_)⟩
        case true =>
          rw [s0 rfl] at hr
          subst hr
          clear s0 s1
          go_enter Tryz.func70, Tryz.ntmps70
          go_wp2_with fail
          refine (HK.out _).mono ?_
          rintro e w1 ⟨rfl, hk1⟩
          have hb1 := hk1.blk (fun h => h) hbB
          have x0 := hb1.cell 0
          have x1 := hb1.cell 1
          have x2 := hb1.cell 2
          have x3 := hb1.cell 3
          have x4 := hb1.cell 4
          have hlt1 := hb1.lt
          have hlt2 : w.heap.size < w1.heap.size + 1 := by omega
          have hlt3 : w.heap.size < w1.heap.size + 1 + 1 := by omega
          have hlt4 : w.heap.size < w1.heap.size + 1 + 1 + 1 := by omega
          have hK1 := hkB.trans hk1 (fun _ _ h => h)
          go_wp2_with (first
            | (go_at_call 27; refine (HO.out _).mono ?_; rintro e w2 ⟨rfl, rfl⟩)
            | (go_at_call 28; refine (HX.out _).mono ?_; rintro e w2 ⟨rfl, rfl⟩)
            | (go_at_call 26; refine (HC.out _).mono ?_; rintro e w2 ⟨rfl, rfl⟩)
            | (go_at_call 119; refine (HD.out _).mono ?_; rintro e w2 ⟨rfl, rfl⟩)
            | (go_at_call 119; refine (HS.out _).mono ?_; rintro e w2 ⟨rfl, rfl⟩))
          go_ret2
          exact ⟨rfl, by repeat (first | exact hK1 | refine Kept.alloc ?_ _ | refine Kept.drew ?_)⟩
      · have b13 : (co == 13) = false := by simpa using h13
        have b11 : (co == 11) = false := by simpa using h11
        rw [if_neg (by rw [b13]; decide), if_neg (by rw [b11]; decide)] at hr
        have c13 : (co != 13) = true := by simpa using h13
        have c11 : (co != 11) = true := by simpa using h11
        clear b13 b11 h13 h11
        cases xb
        case false =>
          rw [s1 rfl, Nat.or_zero] at hr
          subst hr
          clear s0 s1
          go_enter Tryz.func70, Tryz.ntmps70
          go_wp2_with fail
          refine (HK.out _).mono ?_
          rintro e w1 ⟨rfl, hk1⟩
          have hb1 := hk1.blk (fun h => h) hbB
          have x0 := hb1.cell 0
          have x1 := hb1.cell 1
          have x2 := hb1.cell 2
          have x3 := hb1.cell 3
          have x4 := hb1.cell 4
          have hlt1 := hb1.lt
          have hlt2 : w.heap.size < w1.heap.size + 1 := by omega
          have hlt3 : w.heap.size < w1.heap.size + 1 + 1 := by omega
          have hlt4 : w.heap.size < w1.heap.size + 1 + 1 + 1 := by omega
          have hK1 := hkB.trans hk1 (fun _ _ h => h)
          go_wp2_with (first
            | (go_at_call 27; refine (HO.out _).mono ?_; rintro e w2 ⟨rfl, rfl⟩)
            | (go_at_call 28; refine (HX.out _).mono ?_; rintro e w2 ⟨rfl, rfl⟩)
            | (go_at_call 26; refine (HC.out _).mono ?_; rintro e w2 ⟨rfl, rfl⟩)
            | (go_at_call 119; refine (HD.out _).mono ?_; rintro e w2 ⟨rfl, rfl⟩)
            | (go_at_call 119; refine (HS.out _).mono ?_; rintro e w2 ⟨rfl, rfl⟩))
          go_ret2
          exact ⟨rfl, by repeat (first | exact hK1 | refine Kept.alloc ?_ _ | refine Kept.drew ?_)⟩
        case true =>
          rw [s0 rfl] at hr
          subst hr
          clear s0 s1
          go_enter Tryz.func70, Tryz.ntmps70
          go_wp2_with fail
          refine (HK.out _).mono ?_
          rintro e w1 ⟨rfl, hk1⟩
          have hb1 := hk1.blk (fun h => h) hbB
          have x0 := hb1.cell 0
          have x1 := hb1.cell 1
          have x2 := hb1.cell 2
          have x3 := hb1.cell 3
          have x4 := hb1.cell 4
          have hlt1 := hb1.lt
          have hlt2 : w.heap.size < w1.heap.size + 1 := by omega
          have hlt3 : w.heap.size < w1.heap.size + 1 + 1 := by omega
          have hlt4 : w.heap.size < w1.heap.size + 1 + 1 + 1 := by omega
          have hK1 := hkB.trans hk1 (fun _ _ h => h)
          go_wp2_with (first
            | (go_at_call 27; refine (HO.out _).mono ?_; rintro e w2 ⟨rfl, rfl⟩)
            | (go_at_call 28; refine (HX.out _).mono ?_; rintro e w2 ⟨rfl, rfl⟩)
            | (go_at_call 26; refine (HC.out _).mono ?_; rintro e w2 ⟨rfl, rfl⟩)
            | (go_at_call 119; refine (HD.out _).mono ?_; rintro e w2 ⟨rfl, rfl⟩)
            | (go_at_call 119; refine (HS.out _).mono ?_; rintro e w2 ⟨rfl, rfl⟩))
          go_ret2
          exact ⟨rfl, by repeat (first | exact hK1 | refine Kept.alloc ?_ _ | refine Kept.drew ?_)⟩
    · rw [hcl] at HC
      have hr : r = (if (codeI x == 13) = true then bitN x.dst else if (codeI x == 11) = true then secN x else bitN x.dst ||| secN x) := by rw [← HR.out]; unfold readsN; rw [hcl]; rfl
      clear HR EJ hcl
      have s0 := @secN_t x
      have s1 := @secN_f x
      obtain ⟨xb, hxb⟩ : ∃ xb, xB x = xb := ⟨_, rfl⟩
      rw [hxb] at HX s0 s1
      clear hxb
      obtain ⟨co, hco⟩ : ∃ co, codeI x = co := ⟨_, rfl⟩
      rw [hco] at HO hr
      clear hco
      by_cases h13 : co = 13
      · subst h13
        rw [if_pos (show ((13 : Int) == 13) = true from rfl)] at hr
        subst hr
        clear s0 s1
        cases xb
        all_goals
          go_enter Tryz.func70, Tryz.ntmps70
          go_wp2_with fail
          refine (HK.out _).mono ?_
          rintro e w1 ⟨rfl, hk1⟩
          have hb1 := hk1.blk (fun h => h) hbB
          have x0 := hb1.cell 0
          have x1 := hb1.cell 1
          have x2 := hb1.cell 2
          have x3 := hb1.cell 3
          have x4 := hb1.cell 4
          have hlt1 := hb1.lt
          have hlt2 : w.heap.size < w1.heap.size + 1 := by omega
          have hlt3 : w.heap.size < w1.heap.size + 1 + 1 := by omega
          have hlt4 : w.heap.size < w1.heap.size + 1 + 1 + 1 := by omega
          have hK1 := hkB.trans hk1 (fun _ _ h => h)
          go_wp2_with (first
            | (go_at_call 27; refine (HO.out _).mono ?_; rintro e w2 ⟨rfl, rfl⟩)
            | (go_at_call 28; refine (HX.out _).mono ?_; rintro e w2 ⟨rfl, rfl⟩)
            | (go_at_call 26; refine (HC.out _).mono ?_; rintro e w2 ⟨rfl, rfl⟩)
            | (go_at_call 119; refine (HD.out _).mono ?_; rintro e w2 ⟨rfl, rfl⟩)
            | (go_at_call 119; refine (HS.out _).mono ?_; rintro e w2 ⟨rfl, rfl⟩))
          go_ret2
          exact ⟨rfl, by repeat (first | exact hK1 | refine Kept.alloc ?_ _ | refine Kept.drew ?_)⟩
      by_cases h11 : co = 11
      · subst h11
        rw [if_neg (by decide), if_pos (show ((11 : Int) == 11) = true from rfl)] at hr
        cases xb
        case false =>
          rw [s1 rfl] at hr
          subst hr
          clear s0 s1
          go_enter Tryz.func70, Tryz.ntmps70
          go_wp2_with fail
          refine (HK.out _).mono ?_
          rintro e w1 ⟨rfl, hk1⟩
          have hb1 := hk1.blk (fun h => h) hbB
          have x0 := hb1.cell 0
          have x1 := hb1.cell 1
          have x2 := hb1.cell 2
          have x3 := hb1.cell 3
          have x4 := hb1.cell 4
          have hlt1 := hb1.lt
          have hlt2 : w.heap.size < w1.heap.size + 1 := by omega
          have hlt3 : w.heap.size < w1.heap.size + 1 + 1 := by omega
          have hlt4 : w.heap.size < w1.heap.size + 1 + 1 + 1 := by omega
          have hK1 := hkB.trans hk1 (fun _ _ h => h)
          go_wp2_with (first
            | (go_at_call 27; refine (HO.out _).mono ?_; rintro e w2 ⟨rfl, rfl⟩)
            | (go_at_call 28; refine (HX.out _).mono ?_; rintro e w2 ⟨rfl, rfl⟩)
            | (go_at_call 26; refine (HC.out _).mono ?_; rintro e w2 ⟨rfl, rfl⟩)
            | (go_at_call 119; refine (HD.out _).mono ?_; rintro e w2 ⟨rfl, rfl⟩)
            | (go_at_call 119; refine (HS.out _).mono ?_; rintro e w2 ⟨rfl, rfl⟩))
          go_ret2
          exact ⟨rfl, by repeat (first | exact hK1 | refine Kept.alloc ?_ _ | refine Kept.drew ?_)⟩
        case true =>
          rw [s0 rfl] at hr
          subst hr
          clear s0 s1
          go_enter Tryz.func70, Tryz.ntmps70
          go_wp2_with fail
          refine (HK.out _).mono ?_
          rintro e w1 ⟨rfl, hk1⟩
          have hb1 := hk1.blk (fun h => h) hbB
          have x0 := hb1.cell 0
          have x1 := hb1.cell 1
          have x2 := hb1.cell 2
          have x3 := hb1.cell 3
          have x4 := hb1.cell 4
          have hlt1 := hb1.lt
          have hlt2 : w.heap.size < w1.heap.size + 1 := by omega
          have hlt3 : w.heap.size < w1.heap.size + 1 + 1 := by omega
          have hlt4 : w.heap.size < w1.heap.size + 1 + 1 + 1 := by omega
          have hK1 := hkB.trans hk1 (fun _ _ h => h)
          go_wp2_with (first
            | (go_at_call 27; refine (HO.out _).mono ?_; rintro e w2 ⟨rfl, rfl⟩)
            | (go_at_call 28; refine (HX.out _).mono ?_; rintro e w2 ⟨rfl, rfl⟩)
            | (go_at_call 26; refine (HC.out _).mono ?_; rintro e w2 ⟨rfl, rfl⟩)
            | (go_at_call 119; refine (HD.out _).mono ?_; rintro e w2 ⟨rfl, rfl⟩)
            | (go_at_call 119; refine (HS.out _).mono ?_; rintro e w2 ⟨rfl, rfl⟩))
          go_ret2
          exact ⟨rfl, by repeat (first | exact hK1 | refine Kept.alloc ?_ _ | refine Kept.drew ?_)⟩
      · have b13 : (co == 13) = false := by simpa using h13
        have b11 : (co == 11) = false := by simpa using h11
        rw [if_neg (by rw [b13]; decide), if_neg (by rw [b11]; decide)] at hr
        have c13 : (co != 13) = true := by simpa using h13
        have c11 : (co != 11) = true := by simpa using h11
        clear b13 b11 h13 h11
        cases xb
        case false =>
          rw [s1 rfl, Nat.or_zero] at hr
          subst hr
          clear s0 s1
          go_enter Tryz.func70, Tryz.ntmps70
          go_wp2_with fail
          refine (HK.out _).mono ?_
          rintro e w1 ⟨rfl, hk1⟩
          have hb1 := hk1.blk (fun h => h) hbB
          have x0 := hb1.cell 0
          have x1 := hb1.cell 1
          have x2 := hb1.cell 2
          have x3 := hb1.cell 3
          have x4 := hb1.cell 4
          have hlt1 := hb1.lt
          have hlt2 : w.heap.size < w1.heap.size + 1 := by omega
          have hlt3 : w.heap.size < w1.heap.size + 1 + 1 := by omega
          have hlt4 : w.heap.size < w1.heap.size + 1 + 1 + 1 := by omega
          have hK1 := hkB.trans hk1 (fun _ _ h => h)
          go_wp2_with (first
            | (go_at_call 27; refine (HO.out _).mono ?_; rintro e w2 ⟨rfl, rfl⟩)
            | (go_at_call 28; refine (HX.out _).mono ?_; rintro e w2 ⟨rfl, rfl⟩)
            | (go_at_call 26; refine (HC.out _).mono ?_; rintro e w2 ⟨rfl, rfl⟩)
            | (go_at_call 119; refine (HD.out _).mono ?_; rintro e w2 ⟨rfl, rfl⟩)
            | (go_at_call 119; refine (HS.out _).mono ?_; rintro e w2 ⟨rfl, rfl⟩))
          go_ret2
          exact ⟨rfl, by repeat (first | exact hK1 | refine Kept.alloc ?_ _ | refine Kept.drew ?_)⟩
        case true =>
          rw [s0 rfl] at hr
          subst hr
          clear s0 s1
          go_enter Tryz.func70, Tryz.ntmps70
          go_wp2_with fail
          refine (HK.out _).mono ?_
          rintro e w1 ⟨rfl, hk1⟩
          have hb1 := hk1.blk (fun h => h) hbB
          have x0 := hb1.cell 0
          have x1 := hb1.cell 1
          have x2 := hb1.cell 2
          have x3 := hb1.cell 3
          have x4 := hb1.cell 4
          have hlt1 := hb1.lt
          have hlt2 : w.heap.size < w1.heap.size + 1 := by omega
          have hlt3 : w.heap.size < w1.heap.size + 1 + 1 := by omega
          have hlt4 : w.heap.size < w1.heap.size + 1 + 1 + 1 := by omega
          have hK1 := hkB.trans hk1 (fun _ _ h => h)
          go_wp2_with (first
            | (go_at_call 27; refine (HO.out _).mono ?_; rintro e w2 ⟨rfl, rfl⟩)
            | (go_at_call 28; refine (HX.out _).mono ?_; rintro e w2 ⟨rfl, rfl⟩)
            | (go_at_call 26; refine (HC.out _).mono ?_; rintro e w2 ⟨rfl, rfl⟩)
            | (go_at_call 119; refine (HD.out _).mono ?_; rintro e w2 ⟨rfl, rfl⟩)
            | (go_at_call 119; refine (HS.out _).mono ?_; rintro e w2 ⟨rfl, rfl⟩))
          go_ret2
          exact ⟨rfl, by repeat (first | exact hK1 | refine Kept.alloc ?_ _ | refine Kept.drew ?_)⟩
    · have hcl2 := EJ.out hcl
      clear HR EJ
      have hnz : (clsI x == 0) = false ∧ (clsI x == 1) = false ∧ (clsI x == 2) = false ∧ (clsI x == 3) = false ∧ (clsI x == 4) = false ∧ (clsI x == 7) = false := by
        rcases hcl with h | h <;> rw [h] <;> decide
      obtain ⟨n0, n1, n2, n3, n4, n7⟩ := hnz
      obtain ⟨cl, hcl3⟩ : ∃ cl, clsI x = cl := ⟨_, rfl⟩
      rw [hcl3] at HC n0 n1 n2 n3 n4 n7
      clear hcl hcl3
      unfold docJ at hcl2
      have s0 := @secN_t x
      have s1 := @secN_f x
      obtain ⟨xb, hxb⟩ : ∃ xb, xB x = xb := ⟨_, rfl⟩
      rw [hxb] at HX s0 s1
      clear hxb
      obtain ⟨co, hco⟩ : ∃ co, codeI x = co := ⟨_, rfl⟩
      rw [hco] at HO hcl2
      clear hco
      obtain ⟨cm, hcm⟩ : ∃ cm, cmpR x = cm := ⟨_, rfl⟩
      rw [hcm] at HM hcl2
      clear hcm
      cases cm
      case true =>
        rw [if_pos rfl] at hcl2
        cases xb
        case false =>
          rw [s1 rfl, Nat.or_zero] at hcl2
          subst hcl2
          clear s0 s1
          go_enter Tryz.func70, Tryz.ntmps70
          go_wp2_with fail
          refine (HK.out _).mono ?_
          rintro e w1 ⟨rfl, hk1⟩
          have hb1 := hk1.blk (fun h => h) hbB
          have x0 := hb1.cell 0
          have x1 := hb1.cell 1
          have x2 := hb1.cell 2
          have x3 := hb1.cell 3
          have x4 := hb1.cell 4
          have hlt1 := hb1.lt
          have hlt2 : w.heap.size < w1.heap.size + 1 := by omega
          have hlt3 : w.heap.size < w1.heap.size + 1 + 1 := by omega
          have hlt4 : w.heap.size < w1.heap.size + 1 + 1 + 1 := by omega
          have hK1 := hkB.trans hk1 (fun _ _ h => h)
          go_wp2_with (first
            | (go_at_call 27; refine (HO.out _).mono ?_; rintro e w2 ⟨rfl, rfl⟩)
            | (go_at_call 28; refine (HX.out _).mono ?_; rintro e w2 ⟨rfl, rfl⟩)
            | (go_at_call 26; refine (HC.out _).mono ?_; rintro e w2 ⟨rfl, rfl⟩)
            | (go_at_call 119; refine (HD.out _).mono ?_; rintro e w2 ⟨rfl, rfl⟩)
            | (go_at_call 119; refine (HS.out _).mono ?_; rintro e w2 ⟨rfl, rfl⟩))
          refine (HM.out _).mono ?_
          rintro e w2 ⟨rfl, hk2⟩
          have hKa : Kept (fun _ => False) w _ := ((hK1.alloc (.cells (inVals x) 75)).alloc (.cells (inVals x) 75)).alloc (.cells (inVals x) 75)
          have hK2 : Kept (fun _ => False) w w2 := hKa.trans hk2 (fun _ _ h => h)
          have hb2 := hk2.blk (fun h => h) (((hb1.alloc (.cells (inVals x) 75)).alloc (.cells (inVals x) 75)).alloc (.cells (inVals x) 75))
          clear x0 x1 x2 x3 x4 hlt1 hlt2 hlt3 hlt4 hb1 hk2 hKa
          have x0 := hb2.cell 0
          have x1 := hb2.cell 1
          have x2 := hb2.cell 2
          have x3 := hb2.cell 3
          have x4 := hb2.cell 4
          have hlt1 := hb2.lt
          have hlt2 : w.heap.size < w2.heap.size + 1 := by omega
          have hlt3 : w.heap.size < w2.heap.size + 1 + 1 := by omega
          have hlt4 : w.heap.size < w2.heap.size + 1 + 1 + 1 := by omega
          go_wp2_with (first
            | (go_at_call 27; refine (HO.out _).mono ?_; rintro e w2 ⟨rfl, rfl⟩)
            | (go_at_call 28; refine (HX.out _).mono ?_; rintro e w2 ⟨rfl, rfl⟩)
            | (go_at_call 26; refine (HC.out _).mono ?_; rintro e w2 ⟨rfl, rfl⟩)
            | (go_at_call 119; refine (HD.out _).mono ?_; rintro e w2 ⟨rfl, rfl⟩)
            | (go_at_call 119; refine (HS.out _).mono ?_; rintro e w2 ⟨rfl, rfl⟩))
          go_ret2
          exact ⟨rfl, by repeat (first | exact hK2 | refine Kept.alloc ?_ _ | refine Kept.drew ?_)⟩
        case true =>
          rw [s0 rfl] at hcl2
          subst hcl2
          clear s0 s1
          go_enter Tryz.func70, Tryz.ntmps70
          go_wp2_with fail
          refine (HK.out _).mono ?_
          rintro e w1 ⟨rfl, hk1⟩
          have hb1 := hk1.blk (fun h => h) hbB
          have x0 := hb1.cell 0
          have x1 := hb1.cell 1
          have x2 := hb1.cell 2
          have x3 := hb1.cell 3
          have x4 := hb1.cell 4
          have hlt1 := hb1.lt
          have hlt2 : w.heap.size < w1.heap.size + 1 := by omega
          have hlt3 : w.heap.size < w1.heap.size + 1 + 1 := by omega
          have hlt4 : w.heap.size < w1.heap.size + 1 + 1 + 1 := by omega
          have hK1 := hkB.trans hk1 (fun _ _ h => h)
          go_wp2_with (first
            | (go_at_call 27; refine (HO.out _).mono ?_; rintro e w2 ⟨rfl, rfl⟩)
            | (go_at_call 28; refine (HX.out _).mono ?_; rintro e w2 ⟨rfl, rfl⟩)
            | (go_at_call 26; refine (HC.out _).mono ?_; rintro e w2 ⟨rfl, rfl⟩)
            | (go_at_call 119; refine (HD.out _).mono ?_; rintro e w2 ⟨rfl, rfl⟩)
            | (go_at_call 119; refine (HS.out _).mono ?_; rintro e w2 ⟨rfl, rfl⟩))
          refine (HM.out _).mono ?_
          rintro e w2 ⟨rfl, hk2⟩
          have hKa : Kept (fun _ => False) w _ := ((hK1.alloc (.cells (inVals x) 75)).alloc (.cells (inVals x) 75)).alloc (.cells (inVals x) 75)
          have hK2 : Kept (fun _ => False) w w2 := hKa.trans hk2 (fun _ _ h => h)
          have hb2 := hk2.blk (fun h => h) (((hb1.alloc (.cells (inVals x) 75)).alloc (.cells (inVals x) 75)).alloc (.cells (inVals x) 75))
          clear x0 x1 x2 x3 x4 hlt1 hlt2 hlt3 hlt4 hb1 hk2 hKa
          have x0 := hb2.cell 0
          have x1 := hb2.cell 1
          have x2 := hb2.cell 2
          have x3 := hb2.cell 3
          have x4 := hb2.cell 4
          have hlt1 := hb2.lt
          have hlt2 : w.heap.size < w2.heap.size + 1 := by omega
          have hlt3 : w.heap.size < w2.heap.size + 1 + 1 := by omega
          have hlt4 : w.heap.size < w2.heap.size + 1 + 1 + 1 := by omega
          go_wp2_with (first
            | (go_at_call 27; refine (HO.out _).mono ?_; rintro e w2 ⟨rfl, rfl⟩)
            | (go_at_call 28; refine (HX.out _).mono ?_; rintro e w2 ⟨rfl, rfl⟩)
            | (go_at_call 26; refine (HC.out _).mono ?_; rintro e w2 ⟨rfl, rfl⟩)
            | (go_at_call 119; refine (HD.out _).mono ?_; rintro e w2 ⟨rfl, rfl⟩)
            | (go_at_call 119; refine (HS.out _).mono ?_; rintro e w2 ⟨rfl, rfl⟩))
          go_ret2
          exact ⟨rfl, by repeat (first | exact hK2 | refine Kept.alloc ?_ _ | refine Kept.drew ?_)⟩
      case false =>
        rw [if_neg (by decide)] at hcl2
        clear s0 s1
        by_cases h9 : co = 9
        · subst h9
          rw [if_pos (show ((9 : Int) == 9) = true from rfl)] at hcl2
          subst hcl2
          go_enter Tryz.func70, Tryz.ntmps70
          go_wp2_with fail
          refine (HK.out _).mono ?_
          rintro e w1 ⟨rfl, hk1⟩
          have hb1 := hk1.blk (fun h => h) hbB
          have x0 := hb1.cell 0
          have x1 := hb1.cell 1
          have x2 := hb1.cell 2
          have x3 := hb1.cell 3
          have x4 := hb1.cell 4
          have hlt1 := hb1.lt
          have hlt2 : w.heap.size < w1.heap.size + 1 := by omega
          have hlt3 : w.heap.size < w1.heap.size + 1 + 1 := by omega
          have hlt4 : w.heap.size < w1.heap.size + 1 + 1 + 1 := by omega
          have hK1 := hkB.trans hk1 (fun _ _ h => h)
          go_wp2_with (first
            | (go_at_call 27; refine (HO.out _).mono ?_; rintro e w2 ⟨rfl, rfl⟩)
            | (go_at_call 28; refine (HX.out _).mono ?_; rintro e w2 ⟨rfl, rfl⟩)
            | (go_at_call 26; refine (HC.out _).mono ?_; rintro e w2 ⟨rfl, rfl⟩)
            | (go_at_call 119; refine (HD.out _).mono ?_; rintro e w2 ⟨rfl, rfl⟩)
            | (go_at_call 119; refine (HS.out _).mono ?_; rintro e w2 ⟨rfl, rfl⟩))
          refine (HM.out _).mono ?_
          rintro e w2 ⟨rfl, hk2⟩
          have hKa : Kept (fun _ => False) w _ := ((hK1.alloc (.cells (inVals x) 75)).alloc (.cells (inVals x) 75)).alloc (.cells (inVals x) 75)
          have hK2 : Kept (fun _ => False) w w2 := hKa.trans hk2 (fun _ _ h => h)
          have hb2 := hk2.blk (fun h => h) (((hb1.alloc (.cells (inVals x) 75)).alloc (.cells (inVals x) 75)).alloc (.cells (inVals x) 75))
          clear x0 x1 x2 x3 x4 hlt1 hlt2 hlt3 hlt4 hb1 hk2 hKa
          have x0 := hb2.cell 0
          have x1 := hb2.cell 1
          have x2 := hb2.cell 2
          have x3 := hb2.cell 3
          have x4 := hb2.cell 4
          have hlt1 := hb2.lt
          have hlt2 : w.heap.size < w2.heap.size + 1 := by omega
          have hlt3 : w.heap.size < w2.heap.size + 1 + 1 := by omega
          have hlt4 : w.heap.size < w2.heap.size + 1 + 1 + 1 := by omega
          go_wp2_with (first
            | (go_at_call 27; refine (HO.out _).mono ?_; rintro e w2 ⟨rfl, rfl⟩)
            | (go_at_call 28; refine (HX.out _).mono ?_; rintro e w2 ⟨rfl, rfl⟩)
            | (go_at_call 26; refine (HC.out _).mono ?_; rintro e w2 ⟨rfl, rfl⟩)
            | (go_at_call 119; refine (HD.out _).mono ?_; rintro e w2 ⟨rfl, rfl⟩)
            | (go_at_call 119; refine (HS.out _).mono ?_; rintro e w2 ⟨rfl, rfl⟩))
          go_ret2
          exact ⟨rfl, by repeat (first | exact hK2 | refine Kept.alloc ?_ _ | refine Kept.drew ?_)⟩
        by_cases h8 : co = 8
        · subst h8
          rw [if_neg (by decide), if_pos (show ((8 : Int) == 8) = true from rfl)] at hcl2
          cases h1 : (x.src == 1)
          case true =>
            rw [if_pos h1] at hcl2
            subst hcl2
            go_enter Tryz.func70, Tryz.ntmps70
            go_wp2_with fail
            refine (HK.out _).mono ?_
            rintro e w1 ⟨rfl, hk1⟩
            have hb1 := hk1.blk (fun h => h) hbB
            have x0 := hb1.cell 0
            have x1 := hb1.cell 1
            have x2 := hb1.cell 2
            have x3 := hb1.cell 3
            have x4 := hb1.cell 4
            have hlt1 := hb1.lt
            have hlt2 : w.heap.size < w1.heap.size + 1 := by omega
            have hlt3 : w.heap.size < w1.heap.size + 1 + 1 := by omega
            have hlt4 : w.heap.size < w1.heap.size + 1 + 1 + 1 := by omega
            have hK1 := hkB.trans hk1 (fun _ _ h => h)
            go_wp2_with (first
              | (go_at_call 27; refine (HO.out _).mono ?_; rintro e w2 ⟨rfl, rfl⟩)
              | (go_at_call 28; refine (HX.out _).mono ?_; rintro e w2 ⟨rfl, rfl⟩)
              | (go_at_call 26; refine (HC.out _).mono ?_; rintro e w2 ⟨rfl, rfl⟩)
              | (go_at_call 119; refine (HD.out _).mono ?_; rintro e w2 ⟨rfl, rfl⟩)
              | (go_at_call 119; refine (HS.out _).mono ?_; rintro e w2 ⟨rfl, rfl⟩))
            refine (HM.out _).mono ?_
            rintro e w2 ⟨rfl, hk2⟩
            have hKa : Kept (fun _ => False) w _ := ((hK1.alloc (.cells (inVals x) 75)).alloc (.cells (inVals x) 75)).alloc (.cells (inVals x) 75)
            have hK2 : Kept (fun _ => False) w w2 := hKa.trans hk2 (fun _ _ h => h)
            have hb2 := hk2.blk (fun h => h) (((hb1.alloc (.cells (inVals x) 75)).alloc (.cells (inVals x) 75)).alloc (.cells (inVals x) 75))
            clear x0 x1 x2 x3 x4 hlt1 hlt2 hlt3 hlt4 hb1 hk2 hKa
            have x0 := hb2.cell 0
            have x1 := hb2.cell 1
            have x2 := hb2.cell 2
            have x3 := hb2.cell 3
            have x4 := hb2.cell 4
            have hlt1 := hb2.lt
            have hlt2 : w.heap.size < w2.heap.size + 1 := by omega
            have hlt3 : w.heap.size < w2.heap.size + 1 + 1 := by omega
            have hlt4 : w.heap.size < w2.heap.size + 1 + 1 + 1 := by omega
            go_wp2_with (first
              | (go_at_call 27; refine (HO.out _).mono ?_; rintro e w2 ⟨rfl, rfl⟩)
              | (go_at_call 28; refine (HX.out _).mono ?_; rintro e w2 ⟨rfl, rfl⟩)
              | (go_at_call 26; refine (HC.out _).mono ?_; rintro e w2 ⟨rfl, rfl⟩)
              | (go_at_call 119; refine (HD.out _).mono ?_; rintro e w2 ⟨rfl, rfl⟩)
              | (go_at_call 119; refine (HS.out _).mono ?_; rintro e w2 ⟨rfl, rfl⟩))
            go_ret2
            exact ⟨rfl, by repeat (first | exact hK2 | refine Kept.alloc ?_ _ | refine Kept.drew ?_)⟩
          case false =>
            rw [if_neg (by rw [h1]; decide)] at hcl2
            obtain ⟨nm, a0, a1, a2, a3, a4, ret, maps, ac, re, hpr, -⟩ := prL_args x.imm.toNat
            rw [hpr] at HP HN
            clear hpr
            by_cases hn : x.imm < 1 ∨ 28 < x.imm
            case pos =>
              rw [protN_out hn] at hcl2
              subst hcl2
              rw [show pofE x.imm = 130 from if_pos hn] at HP
              clear hn
              go_enter Tryz.func70, Tryz.ntmps70
              go_wp2_with fail
              refine (HK.out _).mono ?_
              rintro e w1 ⟨rfl, hk1⟩
              have hb1 := hk1.blk (fun h => h) hbB
              have x0 := hb1.cell 0
              have x1 := hb1.cell 1
              have x2 := hb1.cell 2
              have x3 := hb1.cell 3
              have x4 := hb1.cell 4
              have hlt1 := hb1.lt
              have hlt2 : w.heap.size < w1.heap.size + 1 := by omega
              have hlt3 : w.heap.size < w1.heap.size + 1 + 1 := by omega
              have hlt4 : w.heap.size < w1.heap.size + 1 + 1 + 1 := by omega
              have hK1 := hkB.trans hk1 (fun _ _ h => h)
              go_wp2_with (first
                | (go_at_call 27; refine (HO.out _).mono ?_; rintro e w2 ⟨rfl, rfl⟩)
                | (go_at_call 28; refine (HX.out _).mono ?_; rintro e w2 ⟨rfl, rfl⟩)
                | (go_at_call 26; refine (HC.out _).mono ?_; rintro e w2 ⟨rfl, rfl⟩)
                | (go_at_call 119; refine (HD.out _).mono ?_; rintro e w2 ⟨rfl, rfl⟩)
                | (go_at_call 119; refine (HS.out _).mono ?_; rintro e w2 ⟨rfl, rfl⟩))
              refine (HM.out _).mono ?_
              rintro e w2 ⟨rfl, hk2⟩
              have hKa : Kept (fun _ => False) w _ := ((hK1.alloc (.cells (inVals x) 75)).alloc (.cells (inVals x) 75)).alloc (.cells (inVals x) 75)
              have hK2 : Kept (fun _ => False) w w2 := hKa.trans hk2 (fun _ _ h => h)
              have hb2 := hk2.blk (fun h => h) (((hb1.alloc (.cells (inVals x) 75)).alloc (.cells (inVals x) 75)).alloc (.cells (inVals x) 75))
              clear x0 x1 x2 x3 x4 hlt1 hlt2 hlt3 hlt4 hb1 hk2 hKa
              have x0 := hb2.cell 0
              have x1 := hb2.cell 1
              have x2 := hb2.cell 2
              have x3 := hb2.cell 3
              have x4 := hb2.cell 4
              have hlt1 := hb2.lt
              have hlt2 : w.heap.size < w2.heap.size + 1 := by omega
              have hlt3 : w.heap.size < w2.heap.size + 1 + 1 := by omega
              have hlt4 : w.heap.size < w2.heap.size + 1 + 1 + 1 := by omega
              go_wp2_with fail
              refine (HP.out _).mono ?_
              rintro e w3 ⟨rfl, hk3⟩
              have hK3 := hK2.trans hk3 (fun _ _ h => h)
              go_wp2_with fail
              go_ret2
              exact ⟨rfl, hK3.alloc _⟩
            case neg =>
              rw [show pofE x.imm = 0 from if_neg hn] at HP
              clear hn
              unfold protN at hcl2
              have hc4 := cntN_le x.imm.toNat
              obtain ⟨c, hc⟩ : ∃ c, cntN x.imm.toNat = c := ⟨_, rfl⟩
              rw [hc] at HN hcl2 hc4
              clear hc
              subst hcl2
              have hc5 : c = 0 ∨ c = 1 ∨ c = 2 ∨ c = 3 ∨ c = 4 := by omega
              clear hc4
              go_enter Tryz.func70, Tryz.ntmps70
              go_wp2_with fail
              refine (HK.out _).mono ?_
              rintro e w1 ⟨rfl, hk1⟩
              have hb1 := hk1.blk (fun h => h) hbB
              have x0 := hb1.cell 0
              have x1 := hb1.cell 1
              have x2 := hb1.cell 2
              have x3 := hb1.cell 3
              have x4 := hb1.cell 4
              have hlt1 := hb1.lt
              have hlt2 : w.heap.size < w1.heap.size + 1 := by omega
              have hlt3 : w.heap.size < w1.heap.size + 1 + 1 := by omega
              have hlt4 : w.heap.size < w1.heap.size + 1 + 1 + 1 := by omega
              have hK1 := hkB.trans hk1 (fun _ _ h => h)
              go_wp2_with (first
                | (go_at_call 27; refine (HO.out _).mono ?_; rintro e w2 ⟨rfl, rfl⟩)
                | (go_at_call 28; refine (HX.out _).mono ?_; rintro e w2 ⟨rfl, rfl⟩)
                | (go_at_call 26; refine (HC.out _).mono ?_; rintro e w2 ⟨rfl, rfl⟩)
                | (go_at_call 119; refine (HD.out _).mono ?_; rintro e w2 ⟨rfl, rfl⟩)
                | (go_at_call 119; refine (HS.out _).mono ?_; rintro e w2 ⟨rfl, rfl⟩))
              refine (HM.out _).mono ?_
              rintro e w2 ⟨rfl, hk2⟩
              have hKa : Kept (fun _ => False) w _ := ((hK1.alloc (.cells (inVals x) 75)).alloc (.cells (inVals x) 75)).alloc (.cells (inVals x) 75)
              have hK2 : Kept (fun _ => False) w w2 := hKa.trans hk2 (fun _ _ h => h)
              have hb2 := hk2.blk (fun h => h) (((hb1.alloc (.cells (inVals x) 75)).alloc (.cells (inVals x) 75)).alloc (.cells (inVals x) 75))
              clear x0 x1 x2 x3 x4 hlt1 hlt2 hlt3 hlt4 hb1 hk2 hKa
              have x0 := hb2.cell 0
              have x1 := hb2.cell 1
              have x2 := hb2.cell 2
              have x3 := hb2.cell 3
              have x4 := hb2.cell 4
              have hlt1 := hb2.lt
              have hlt2 : w.heap.size < w2.heap.size + 1 := by omega
              have hlt3 : w.heap.size < w2.heap.size + 1 + 1 := by omega
              have hlt4 : w.heap.size < w2.heap.size + 1 + 1 + 1 := by omega
              go_wp2_with fail
              refine (HP.out _).mono ?_
              rintro e w3 ⟨rfl, hk3⟩
              have hK3 := hK2.trans hk3 (fun _ _ h => h)
              go_wp2_with fail
              refine (HN.out _).mono ?_
              rintro e w4 ⟨rfl, hk4⟩
              have hK4 := (hK3.alloc _).trans hk4 (fun _ _ h => h)
              rcases hc5 with rfl | rfl | rfl | rfl | rfl
              all_goals
                go_wp2_with fail
                go_ret2
                exact ⟨rfl, hK4⟩
        · have b9 : (co == 9) = false := by simpa using h9
          have b8 : (co == 8) = false := by simpa using h8
          rw [if_neg (by rw [b9]; decide), if_neg (by rw [b8]; decide)] at hcl2
          subst hcl2
          clear h8 h9
          go_enter Tryz.func70, Tryz.ntmps70
          go_wp2_with fail
          refine (HK.out _).mono ?_
          rintro e w1 ⟨rfl, hk1⟩
          have hb1 := hk1.blk (fun h => h) hbB
          have x0 := hb1.cell 0
          have x1 := hb1.cell 1
          have x2 := hb1.cell 2
          have x3 := hb1.cell 3
          have x4 := hb1.cell 4
          have hlt1 := hb1.lt
          have hlt2 : w.heap.size < w1.heap.size + 1 := by omega
          have hlt3 : w.heap.size < w1.heap.size + 1 + 1 := by omega
          have hlt4 : w.heap.size < w1.heap.size + 1 + 1 + 1 := by omega
          have hK1 := hkB.trans hk1 (fun _ _ h => h)
          go_wp2_with (first
            | (go_at_call 27; refine (HO.out _).mono ?_; rintro e w2 ⟨rfl, rfl⟩)
            | (go_at_call 28; refine (HX.out _).mono ?_; rintro e w2 ⟨rfl, rfl⟩)
            | (go_at_call 26; refine (HC.out _).mono ?_; rintro e w2 ⟨rfl, rfl⟩)
            | (go_at_call 119; refine (HD.out _).mono ?_; rintro e w2 ⟨rfl, rfl⟩)
            | (go_at_call 119; refine (HS.out _).mono ?_; rintro e w2 ⟨rfl, rfl⟩))
          refine (HM.out _).mono ?_
          rintro e w2 ⟨rfl, hk2⟩
          have hKa : Kept (fun _ => False) w _ := ((hK1.alloc (.cells (inVals x) 75)).alloc (.cells (inVals x) 75)).alloc (.cells (inVals x) 75)
          have hK2 : Kept (fun _ => False) w w2 := hKa.trans hk2 (fun _ _ h => h)
          have hb2 := hk2.blk (fun h => h) (((hb1.alloc (.cells (inVals x) 75)).alloc (.cells (inVals x) 75)).alloc (.cells (inVals x) 75))
          clear x0 x1 x2 x3 x4 hlt1 hlt2 hlt3 hlt4 hb1 hk2 hKa
          have x0 := hb2.cell 0
          have x1 := hb2.cell 1
          have x2 := hb2.cell 2
          have x3 := hb2.cell 3
          have x4 := hb2.cell 4
          have hlt1 := hb2.lt
          have hlt2 : w.heap.size < w2.heap.size + 1 := by omega
          have hlt3 : w.heap.size < w2.heap.size + 1 + 1 := by omega
          have hlt4 : w.heap.size < w2.heap.size + 1 + 1 + 1 := by omega
          go_wp2_with (first
            | (go_at_call 27; refine (HO.out _).mono ?_; rintro e w2 ⟨rfl, rfl⟩)
            | (go_at_call 28; refine (HX.out _).mono ?_; rintro e w2 ⟨rfl, rfl⟩)
            | (go_at_call 26; refine (HC.out _).mono ?_; rintro e w2 ⟨rfl, rfl⟩)
            | (go_at_call 119; refine (HD.out _).mono ?_; rintro e w2 ⟨rfl, rfl⟩)
            | (go_at_call 119; refine (HS.out _).mono ?_; rintro e w2 ⟨rfl, rfl⟩))
          go_ret2
          exact ⟨rfl, by repeat (first | exact hK2 | refine Kept.alloc ?_ _ | refine Kept.drew ?_)⟩


open Go.RowKit

/-! ### what the document says an operation writes -/
set_option maxHeartbeats 8000000 in
set_option maxRecDepth 100000 in
theorem rWrites_any (x : In) (w : World) (hx : InOk x) : Calls Tryz.prog 65 #[.agg (inVals x)] w fun e w' => e = .returned (.tuple #[.int .u16 (writesR x), .bool (rightB x)]) ∧ Kept (fun _ => False) w w' := by
  have HR := Lib.hid (fun W => rReads_any x W hx)
  have HW := Lib.hid (fun W => rwrites_any x W hx)
  have HI := Lib.hid (fun W => ris_any x 8 W hx)
  have hbB := Blk.new w 75 (inVals x)
  have hkB : Kept (fun _ => False) w (w.alloc (.cells (inVals x) 75)) := (Kept.refl _ w).alloc _
  obtain ⟨rr, hrr⟩ : ∃ rr, readsR x = rr := ⟨_, rfl⟩
  rw [hrr] at HR
  clear hrr
  cases hr : rightB x
  case false =>
    have e0 : writesR x = 0 := by unfold writesR; rw [if_neg (by rw [hr]; decide)]
    rw [e0]
    rw [hr] at HR
    clear hr e0
    go_enter Tryz.func65, Tryz.ntmps65
    go_wp2_with fail
    refine (HR.out _).mono ?_
    rintro e w1 ⟨rfl, hk1⟩
    go_wp2_with fail
    go_ret2
    exact ⟨rfl, hkB.trans hk1 (fun _ _ h => h)⟩
  case true =>
    have er : writesR x = writesN x := by unfold writesR; rw [if_pos hr]
    rw [er]
    obtain ⟨hd, hs⟩ := rightB_regs hr
    have hkn : knownB x = true := by
      unfold rightB at hr
      simp at hr
      exact hr.1
    have HD := Lib.hid (fun W => rbit_any x.dst W ⟨hx.dst.1, hd⟩)
    rw [isR8 hx hkn] at HI
    rw [hr] at HR
    obtain ⟨r, hrn⟩ : ∃ r, writesN x = r := ⟨_, rfl⟩
    rw [hrn]
    unfold writesN at hrn
    obtain ⟨wb, hwb⟩ : ∃ wb, writesB x = wb := ⟨_, rfl⟩
    rw [hwb] at hrn HW
    clear er hr hkn hwb
    cases wb
    case true =>
      rw [if_pos rfl] at hrn
      subst hrn
      go_enter Tryz.func65, Tryz.ntmps65
      go_wp2_with fail
      refine (HR.out _).mono ?_
      rintro e w1 ⟨rfl, hk1⟩
      have hb1 := hk1.blk (fun h => h) hbB
      have hK1 := hkB.trans hk1 (fun _ _ h => h)
      have x0 := hb1.cell 0
      have x1 := hb1.cell 1
      have x2 := hb1.cell 2
      have x3 := hb1.cell 3
      have x4 := hb1.cell 4
      go_wp2_with fail
      refine (HW.out _).mono ?_
      rintro e w2 ⟨rfl, hk2⟩
      have hK2 := hK1.trans hk2 (fun _ _ h => h)
      have hb2 := hk2.blk (fun h => h) hb1
      clear x0 x1 x2 x3 x4
      have x1 := hb2.cell 1
      go_wp2_with (go_at_call 119; refine (HD.out _).mono ?_; rintro e w4 ⟨rfl, rfl⟩)
      go_ret2
      exact ⟨rfl, hK2⟩
    case false =>
      rw [if_neg (by decide)] at hrn
      cases h133 : (x.op == 133)
      all_goals
        rw [h133] at hrn HI
        simp only [if_true, if_false, Bool.false_eq_true] at hrn
        subst hrn
        go_enter Tryz.func65, Tryz.ntmps65
        go_wp2_with fail
        refine (HR.out _).mono ?_
        rintro e w1 ⟨rfl, hk1⟩
        have hb1 := hk1.blk (fun h => h) hbB
        have hK1 := hkB.trans hk1 (fun _ _ h => h)
        have x0 := hb1.cell 0
        have x1 := hb1.cell 1
        have x2 := hb1.cell 2
        have x3 := hb1.cell 3
        have x4 := hb1.cell 4
        go_wp2_with fail
        refine (HW.out _).mono ?_
        rintro e w2 ⟨rfl, hk2⟩
        have hK2 := hK1.trans hk2 (fun _ _ h => h)
        have hb2 := hk2.blk (fun h => h) hb1
        clear x0 x1 x2 x3 x4
        have x0 := hb2.cell 0
        have x1 := hb2.cell 1
        have x2 := hb2.cell 2
        have x3 := hb2.cell 3
        have x4 := hb2.cell 4
        go_wp2_with fail
        refine (HI.out _).mono ?_
        rintro e w3 ⟨rfl, hk3⟩
        have hK3 := hK2.trans hk3 (fun _ _ h => h)
        go_wp2_with fail
        go_ret2
        exact ⟨rfl, hK3⟩

/-! ### live.next -/
set_option linter.unusedSimpArgs false
set_option linter.unusedVariables false
open Go.RowKit

/-! ### rows of bits, in plain -/
/-- each bit of a is one of b -/
def Sb (a b : Nat) : Prop := ∀ k, a.testBit k = true → b.testBit k = true
theorem Sb.refl (a : Nat) : Sb a a := fun _ h => h
theorem Sb.trans {a b c : Nat} (h : Sb a b) (g : Sb b c) : Sb a c := fun k hk => g k (h k hk)
theorem Sb.zero (b : Nat) : Sb 0 b := fun k hk => by simp at hk
theorem Sb.antisymm {a b : Nat} (h : Sb a b) (g : Sb b a) : a = b := Nat.eq_of_testBit_eq fun k => by
  cases ha : a.testBit k <;> cases hb : b.testBit k
  · rfl
  · rw [g k hb] at ha; cases ha
  · rw [h k ha] at hb; cases hb
  · rfl
theorem Sb.or_eq {a b : Nat} (h : Sb a b) : a ||| b = b := Nat.eq_of_testBit_eq fun k => by
  rw [Nat.testBit_or]
  cases ha : a.testBit k
  · simp
  · rw [h k ha]; rfl
theorem Sb.le {a b : Nat} (h : Sb a b) : a ≤ b := by
  rw [← h.or_eq]
  exact Nat.left_le_or
theorem Sb.or {a b c d : Nat} (h : Sb a b) (g : Sb c d) : Sb (a ||| c) (b ||| d) := fun k hk => by
  rw [Nat.testBit_or, Bool.or_eq_true] at hk ⊢
  exact hk.imp (h k) (g k)
theorem Sb.and {a b : Nat} (h : Sb a b) (m : Nat) : Sb (a &&& m) (b &&& m) := fun k hk => by
  rw [Nat.testBit_and, Bool.and_eq_true] at hk ⊢
  exact ⟨h k hk.1, hk.2⟩
theorem Sb.less {a b : Nat} (h : Sb a b) (m : Nat) : Sb (lessN a m) (lessN b m) := h.and _

/-- what is live at one of the slots of a list -/
def behN (L : List Nat) : List Int → Nat
  | [] => 0
  | t :: r => L.getD t.toNat 0 ||| behN L r
theorem behN_bit {L : List Nat} {N : List Int} {k : Nat} : (behN L N).testBit k = true ↔ ∃ t ∈ N, (L.getD t.toNat 0).testBit k = true := by
  induction N with
  | nil => simp [behN]
  | cons t r ih => simp only [behN, Nat.testBit_or, Bool.or_eq_true, ih, List.mem_cons, exists_eq_or_imp]
theorem behN_lt {L : List Nat} (h : ∀ v ∈ L, v < 65536) (N : List Int) : behN L N < 65536 := by
  induction N with
  | nil => simp [behN]
  | cons t r ih =>
    refine or_lt ?_ ih
    rw [List.getD_eq_getElem?_getD]
    cases e : L[t.toNat]? with
    | none => simp
    | some v => exact h v (List.mem_of_getElem? e)
theorem behN_mono {L M : List Nat} (h : ∀ (i v u : Nat), L[i]? = some v → M[i]? = some u → Sb v u) (hl : L.length = M.length) (N : List Int) : Sb (behN L N) (behN M N) := fun k hk => by
  rw [behN_bit] at hk ⊢
  obtain ⟨t, ht, hb⟩ := hk
  refine ⟨t, ht, ?_⟩
  rw [List.getD_eq_getElem?_getD] at hb ⊢
  cases e : L[t.toNat]? with
  | none => rw [e] at hb; simp at hb
  | some v =>
    have hlt := (List.getElem?_eq_some_iff.1 e).1
    have e2 : M[t.toNat]? = some M[t.toNat] := List.getElem?_eq_getElem (by omega)
    rw [e] at hb
    rw [e2]
    exact h _ _ _ e e2 k hb
/-- what is live at a slot, told by what is live at the next ones -/
def newN (L : List Nat) (i : Nat) (x : In) : Nat := readsN x ||| lessN (behN L (nextC i x)) (writesN x)
theorem newN_mono {L M : List Nat} (h : ∀ (i v u : Nat), L[i]? = some v → M[i]? = some u → Sb v u) (hl : L.length = M.length) (i : Nat) (x : In) : Sb (newN L i x) (newN M i x) := (Sb.refl _).or ((behN_mono h hl _).less _)
theorem right_of {l : List In} (h : checkI l = 0) {i : Nat} {x : In} (hx : l[i]? = some x) (hs : (secL l)[i]? = some false) : rightB x = true := by
  obtain ⟨h1, _⟩ := check_parts h
  obtain ⟨_, _, h3⟩ := slots_zero h1
  have := h3 i (List.getElem?_eq_some_iff.1 hx).1
  rw [slot_wrong hx hs] at this
  obtain ⟨hk, hr, _⟩ := wrong_rest this
  unfold rightB
  rw [hk]
  simp at hr ⊢
  omega
theorem right_known {x : In} (h : rightB x = true) : knownB x = true := by
  unfold rightB at h
  simp at h
  exact h.1
theorem newN_lt {L : List Nat} (h : ∀ v ∈ L, v < 65536) {x : In} (hr : rightB x = true) (i : Nat) : newN L i x < 65536 := by
  obtain ⟨h1, h2⟩ := rightB_regs hr
  exact or_lt (readsN_lt x h1 h2) (less_lt (behN_lt h _))

/-! ### the least rows -/
def PostF (l : List In) (R : List Nat) : Prop := R.length = l.length ∧ ∀ (i : Nat) (x : In) (u : Nat), l[i]? = some x → (secL l)[i]? = some false → R[i]? = some u → Sb (newN R i x) u
structure LInv (l : List In) (L : List Nat) : Prop where
  len : L.length = l.length
  lt : ∀ v ∈ L, v < 65536
  sec : ∀ i : Nat, (secL l)[i]? = some true → L[i]? = some 0
  inc : ∀ (i : Nat) (x : In) (v : Nat), l[i]? = some x → (secL l)[i]? = some false → L[i]? = some v → Sb v (newN L i x)
  least : ∀ R, PostF l R → ∀ (i v u : Nat), L[i]? = some v → R[i]? = some u → Sb v u
structure LiveIs (l : List In) (L : List Nat) : Prop where
  len : L.length = l.length
  lt : ∀ v ∈ L, v < 65536
  sec : ∀ i : Nat, (secL l)[i]? = some true → L[i]? = some 0
  fix : ∀ (i : Nat) (x : In), l[i]? = some x → (secL l)[i]? = some false → L[i]? = some (newN L i x)
  least : ∀ R, PostF l R → ∀ (i v u : Nat), L[i]? = some v → R[i]? = some u → Sb v u
theorem LInv.start (l : List In) : LInv l (List.replicate l.length 0) where
  len := by simp
  lt := fun v hv => by rw [(List.mem_replicate.1 hv).2]; omega
  sec := fun i hi => by
    have := (List.getElem?_eq_some_iff.1 hi).1
    rw [sec_len] at this
    rw [List.getElem?_replicate, if_pos this]
  inc := fun i x v _ _ hv => by
    rw [(List.mem_replicate.1 (List.mem_of_getElem? hv)).2]
    exact Sb.zero _
  least := fun R _ i v u hv _ => by
    rw [(List.mem_replicate.1 (List.mem_of_getElem? hv)).2]
    exact Sb.zero _
theorem set_up {L : List Nat} {i v0 v : Nat} (h0 : L[i]? = some v0) (h : Sb v0 v) : ∀ (j a b : Nat), L[j]? = some a → (L.set i v)[j]? = some b → Sb a b := fun j a b ha hb => by
  rw [List.getElem?_set] at hb
  split at hb
  · rename_i e
    subst e
    split at hb
    · rw [h0] at ha
      cases ha
      cases hb
      exact h
    · cases hb
  · rw [ha] at hb
    cases hb
    exact Sb.refl _
theorem LInv.step {l : List In} {L : List Nat} (h : LInv l L) {i : Nat} {x : In} (hx : l[i]? = some x) (hs : (secL l)[i]? = some false) (hr : rightB x = true) : LInv l (L.set i (newN L i x)) := by
  have hi := (List.getElem?_eq_some_iff.1 hx).1
  obtain ⟨v0, hg⟩ : ∃ v0, L[i]? = some v0 := ⟨_, List.getElem?_eq_getElem (by rw [h.len]; exact hi)⟩
  have hup := set_up hg (h.inc i x _ hx hs hg)
  refine ⟨by rw [List.length_set, h.len], fun v hv => ?_, fun j hj => ?_, fun j y v hy hsj hv => ?_, fun R hR j v u hv hu => ?_⟩
  · rcases List.mem_or_eq_of_mem_set hv with hv | rfl
    · exact h.lt v hv
    · exact newN_lt h.lt hr i
  · have hne : i ≠ j := fun e => by subst e; rw [hs] at hj; cases hj
    rw [List.getElem?_set_ne hne]
    exact h.sec j hj
  · have hm : Sb (newN L j y) (newN (L.set i (newN L i x)) j y) := newN_mono hup (by simp) j y
    by_cases e : i = j
    · subst e
      rw [List.getElem?_set_self (by rw [h.len]; exact hi)] at hv
      rw [hx] at hy
      cases hy
      cases hv
      exact hm
    · rw [List.getElem?_set_ne e] at hv
      exact (h.inc j y v hy hsj hv).trans hm
  · by_cases e : i = j
    · subst e
      rw [List.getElem?_set_self (by rw [h.len]; exact hi)] at hv
      cases hv
      exact (newN_mono (h.least R hR) (by rw [h.len, hR.1]) i x).trans (hR.2 i x u hx hs hu)
    · rw [List.getElem?_set_ne e] at hv
      exact h.least R hR j v u hv hu
theorem LInv.up {l : List In} {L : List Nat} (h : LInv l L) {i : Nat} {x : In} {v : Nat} (hx : l[i]? = some x) (hs : (secL l)[i]? = some false) (hv : L[i]? = some v) : v ||| newN L i x = newN L i x ∧ v ≤ newN L i x :=
  ⟨(h.inc i x v hx hs hv).or_eq, (h.inc i x v hx hs hv).le⟩
theorem LiveIs.of {l : List In} {L : List Nat} (h : LInv l L) (hf : ∀ (i : Nat) (x : In), l[i]? = some x → (secL l)[i]? = some false → L[i]? = some (newN L i x)) : LiveIs l L := ⟨h.len, h.lt, h.sec, hf, h.least⟩
theorem LiveIs.post {l : List In} {L : List Nat} (h : LiveIs l L) : PostF l L := ⟨h.len, fun i x u hx hs hu => by
  rw [h.fix i x hx hs] at hu
  cases hu
  exact Sb.refl _⟩
theorem LiveIs.unique {l : List In} {L M : List Nat} (h : LiveIs l L) (k : LiveIs l M) : L = M := by
  refine List.ext_getElem (by rw [h.len, k.len]) fun i h1 h2 => ?_
  exact (h.least M k.post i _ _ (List.getElem?_eq_getElem h1) (List.getElem?_eq_getElem h2)).antisymm (k.least L h.post i _ _ (List.getElem?_eq_getElem h2) (List.getElem?_eq_getElem h1))



end Go.Proofs.YtdchmelgaljpfaaGreat
