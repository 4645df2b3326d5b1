import Derived.Test.YtdchmelgaljpfaaGreatJa
import Derived.Laws.BitsAllLaws
set_option linter.unusedSimpArgs false
set_option linter.unusedVariables false
namespace Go.Proofs.YtdchmelgaljpfaaGreat
open Go.RowKit

/-! ### slots -/
structure In where
  op : Int
  dst : Int
  src : Int
  off : Int
  imm : Int
  deriving DecidableEq
structure InOk (x : In) : Prop where
  op : 0 ≤ x.op ∧ x.op ≤ 255
  dst : 0 ≤ x.dst ∧ x.dst ≤ 255
  src : 0 ≤ x.src ∧ x.src ≤ 255
  off : -32768 ≤ x.off ∧ x.off ≤ 32767
  imm : -2147483648 ≤ x.imm ∧ x.imm ≤ 2147483647
abbrev inVals (x : In) : Array Value := #[.int .u8 x.op, .int .u8 x.dst, .int .u8 x.src, .int .i16 x.off, .int .i32 x.imm]
def clsI (x : In) : Int := x.op % 8
def codeI (x : In) : Int := x.op / 16
def xB (x : In) : Bool := decide (8 ≤ x.op % 16)
theorem and7 {n : Int} (h : 0 ≤ n ∧ n ≤ 255) : bits BinOp.and .u8 n 7 = n % 8 := by
  obtain ⟨m, rfl⟩ : ∃ m : Nat, n = m := ⟨n.toNat, by omega⟩
  have : ∀ m : Nat, m < 256 → bits BinOp.and .u8 (m : Int) 7 = ((m % 8 : Nat) : Int) := by decide +kernel
  rw [this m (by omega)]
  omega
theorem and8 {n : Int} (h : 0 ≤ n ∧ n ≤ 255) : bits BinOp.and .u8 n 8 = if 8 ≤ n % 16 then 8 else 0 := by
  obtain ⟨m, rfl⟩ : ∃ m : Nat, n = m := ⟨n.toNat, by omega⟩
  have : ∀ m : Nat, m < 256 → bits BinOp.and .u8 (m : Int) 8 = if 8 ≤ m % 16 then 8 else 0 := by decide +kernel
  rw [this m (by omega)]
  by_cases h8 : 8 ≤ m % 16
  · rw [if_pos h8, if_pos (by omega)]
  · rw [if_neg h8, if_neg (by omega)]

set_option maxHeartbeats 1000000 in
theorem class_any (n : Int) (w : World) (h : 0 ≤ n ∧ n ≤ 255) : Calls Tryz.prog 149 #[.int .u8 n] w fun e w' => e = .returned (.int .i64 (n % 8)) ∧ w = w' := by
  have h7 := and7 h
  go_enter Tryz.func149, Tryz.ntmps149
  go_wp2_with fail
  go_ret
  exact ⟨rfl, rfl⟩
set_option maxHeartbeats 1000000 in
theorem code_any (n : Int) (w : World) (h : 0 ≤ n ∧ n ≤ 255) : Calls Tryz.prog 150 #[.int .u8 n] w fun e w' => e = .returned (.int .i64 (n / 16)) ∧ w = w' := by
  go_enter Tryz.func150, Tryz.ntmps150
  go_wp2_with fail
  go_ret
  exact ⟨rfl, rfl⟩

def operandB (x : In) : Bool := if xB x = true then x.imm == 0 else x.src == 0
theorem and8x {x : In} (h : InOk x) : bits BinOp.and .u8 x.op 8 = if xB x = true then 8 else 0 := by
  rw [and8 h.op]
  unfold xB
  by_cases h8 : 8 ≤ x.op % 16 <;> simp [h8]
set_option maxHeartbeats 1000000 in
theorem operand_any (x : In) (w : World) (hx : InOk x) : Calls Tryz.prog 228 #[.agg (inVals x)] w fun e w' => e = .returned (.bool (operandB x)) ∧ Kept (fun _ => False) w w' := by
  have h8 := and8x hx
  unfold operandB
  cases hb : xB x
  all_goals
    simp only [hb, if_true, if_false, Bool.false_eq_true] at h8 ⊢
    clear hb
    go_enter Tryz.func228, Tryz.ntmps228
    go_wp2_with fail
    go_ret
    exact ⟨rfl, (Kept.refl _ w).alloc _⟩

/-! ### arith -/
def arithB (x : In) : Bool := if x.off = 0 then (if codeI x = 8 then (!xB x && (x.src == 0)) && (x.imm == 0)
  else if codeI x = 13 then ((x.src == 0) && ((x.imm == 16 || x.imm == 32) || x.imm == 64)) && !(xB x && clsI x == 7)
  else if 13 < codeI x then false else operandB x) else false
set_option maxHeartbeats 4000000 in
theorem arith_any (x : In) (w : World) (hx : InOk x) : Calls Tryz.prog 175 #[.agg (inVals x)] w fun e w' => e = .returned (.bool (arithB x)) ∧ Kept (fun _ => False) w w' := by
  have h8 := and8x hx
  have HC := Lib.hid (fun W => class_any x.op W hx.op)
  have HK := Lib.hid (fun W => code_any x.op W hx.op)
  have HO := Lib.hid (fun W => operand_any x W hx)
  have hc0 : clsI x = x.op % 8 := rfl
  have hk0 : codeI x = x.op / 16 := rfl
  rw [← hc0] at HC
  rw [← hk0] at HK
  obtain ⟨r, hr⟩ : ∃ r, arithB x = r := ⟨_, rfl⟩
  rw [hr]
  unfold arithB at hr
  generalize operandB x = ob at *
  generalize xB x = xb at *
  generalize codeI x = k at *
  generalize clsI x = c at *
  clear hc0 hk0 hx
  by_cases ho : x.off = 0
  case neg =>
    rw [if_neg ho] at hr
    have ho2 : (x.off != 0) = true := by simpa using ho
    clear ho
    subst hr
    cases xb
    all_goals
      simp only [Bool.not_false, Bool.not_true, Bool.true_and, Bool.false_and, Bool.and_true, Bool.and_false, Bool.true_or, Bool.false_or, Bool.or_true, Bool.or_false, if_true, if_false, Bool.false_eq_true, reduceIte] at h8
      go_enter Tryz.func175, Tryz.ntmps175
      go_wp2_with (fail)
      go_ret
      exact ⟨rfl, (Kept.refl _ w).alloc _⟩
  case pos =>
  rw [if_pos ho] at hr
  have ho2 : (x.off != 0) = false := by simp [ho]
  clear ho
  by_cases k8 : k = 8
  · subst k8
    rw [if_pos rfl] at hr
    cases xb <;> cases hs : (x.src == 0)
    all_goals
      simp only [hs, Bool.not_false, Bool.not_true, Bool.true_and, Bool.false_and, Bool.and_true, Bool.and_false, Bool.true_or, Bool.false_or, Bool.or_true, Bool.or_false, if_true, if_false, Bool.false_eq_true, reduceIte] at hr h8
      subst hr
      go_enter Tryz.func175, Tryz.ntmps175
      go_wp2_with ((go_at_call 150; refine (HK.out _).mono ?_; rintro e w1 ⟨rfl, rfl⟩))
      go_ret
      exact ⟨rfl, (Kept.refl _ w).alloc _⟩
  by_cases k13 : k = 13
  · subst k13
    rw [if_neg (by decide), if_pos rfl] at hr
    cases hs : (x.src == 0)
    · simp only [hs, Bool.not_false, Bool.not_true, Bool.true_and, Bool.false_and, Bool.and_true, Bool.and_false, Bool.true_or, Bool.false_or, Bool.or_true, Bool.or_false, if_true, if_false, Bool.false_eq_true, reduceIte] at hr
      subst hr
      cases xb
      all_goals
        simp only [Bool.not_false, Bool.not_true, Bool.true_and, Bool.false_and, Bool.and_true, Bool.and_false, Bool.true_or, Bool.false_or, Bool.or_true, Bool.or_false, if_true, if_false, Bool.false_eq_true, reduceIte] at h8
        go_enter Tryz.func175, Tryz.ntmps175
        go_wp2_with ((go_at_call 150; refine (HK.out _).mono ?_; rintro e w1 ⟨rfl, rfl⟩))
        go_ret
        exact ⟨rfl, (Kept.refl _ w).alloc _⟩
    · cases xb <;> cases h16 : (x.imm == 16) <;> cases h32 : (x.imm == 32) <;> cases h64 : (x.imm == 64)
      all_goals
        simp only [hs, h16, h32, h64, Bool.not_false, Bool.not_true, Bool.true_and, Bool.false_and, Bool.and_true, Bool.and_false, Bool.true_or, Bool.false_or, Bool.or_true, Bool.or_false, if_true, if_false, Bool.false_eq_true, reduceIte] at hr h8
        subst hr
        go_enter Tryz.func175, Tryz.ntmps175
        go_wp2_with (first | (go_at_call 150; refine (HK.out _).mono ?_; rintro e w1 ⟨rfl, rfl⟩) | (go_at_call 149; refine (HC.out _).mono ?_; rintro e w1 ⟨rfl, rfl⟩))
        go_ret
        exact ⟨rfl, (Kept.refl _ w).alloc _⟩
  rw [if_neg k8, if_neg k13] at hr
  have k8d : (k == 8) = false := by simpa using k8
  have k13d : (k == 13) = false := by simpa using k13
  clear k8 k13
  by_cases kg : 13 < k
  · rw [if_pos kg] at hr
    subst hr
    have kgd : decide ((13 : Int) < k) = true := decide_eq_true kg
    clear kg
    cases xb
    all_goals
      simp only [Bool.not_false, Bool.not_true, Bool.true_and, Bool.false_and, Bool.and_true, Bool.and_false, Bool.true_or, Bool.false_or, Bool.or_true, Bool.or_false, if_true, if_false, Bool.false_eq_true, reduceIte] at h8
      go_enter Tryz.func175, Tryz.ntmps175
      go_wp2_with ((go_at_call 150; refine (HK.out _).mono ?_; rintro e w1 ⟨rfl, rfl⟩))
      go_ret
      exact ⟨rfl, (Kept.refl _ w).alloc _⟩
  · rw [if_neg kg] at hr
    subst hr
    have kgd : decide ((13 : Int) < k) = false := decide_eq_false kg
    clear kg
    cases xb
    all_goals
      simp only [Bool.not_false, Bool.not_true, Bool.true_and, Bool.false_and, Bool.and_true, Bool.and_false, Bool.true_or, Bool.false_or, Bool.or_true, Bool.or_false, if_true, if_false, Bool.false_eq_true, reduceIte] at h8
      go_enter Tryz.func175, Tryz.ntmps175
      go_wp2_with (first | (go_at_call 150; refine (HK.out _).mono ?_; rintro e w1 ⟨rfl, rfl⟩) | (go_at_call 228; refine (HO.out _).mono ?_; rintro e w2 ⟨rfl, hk2⟩))
      go_ret
      exact ⟨rfl, ((Kept.refl _ w).alloc _).trans hk2 (fun _ _ h => h)⟩

end Go.Proofs.YtdchmelgaljpfaaGreat
