import Derived.Test.YtdchmelgaljpfaaGreatJb
set_option linter.unusedSimpArgs false
set_option linter.unusedVariables false
namespace Go.Proofs.YtdchmelgaljpfaaGreat
open Go.RowKit

/-! ### jump -/
def wholeJ (x : In) : Bool := (clsI x == 5 && !xB x) && (x.dst == 0)
def jumpB (x : In) : Bool := if codeI x = 0 then (wholeJ x && (x.src == 0)) && (x.imm == 0) else if codeI x = 8 then (wholeJ x && (x.off == 0)) && decide (x.src ≤ 1)
  else if codeI x = 9 then ((wholeJ x && (x.src == 0)) && (x.off == 0)) && (x.imm == 0) else decide (codeI x ≤ 13) && operandB x
set_option maxHeartbeats 8000000 in
theorem jump_any (x : In) (w : World) (hx : InOk x) : Calls Tryz.prog 176 #[.agg (inVals x)] w fun e w' => e = .returned (.bool (jumpB x)) ∧ Kept (fun _ => False) w w' := by
  have h8 := and8x hx
  have HC := Lib.hid (fun W => class_any x.op W hx.op)
  have HK := Lib.hid (fun W => code_any x.op W hx.op)
  have HO := Lib.hid (fun W => operand_any x W hx)
  have hc0 : clsI x = x.op % 8 := rfl
  have hk0 : codeI x = x.op / 16 := rfl
  rw [← hc0] at HC
  rw [← hk0] at HK
  obtain ⟨r, hr⟩ : ∃ r, jumpB x = r := ⟨_, rfl⟩
  rw [hr]
  unfold jumpB wholeJ at hr
  generalize operandB x = ob at *
  generalize xB x = xb at *
  generalize codeI x = k at *
  generalize clsI x = c at *
  clear hc0 hk0 hx
  have four : ((c == 5) = false ∧ xb = false ∨ (c == 5) = false ∧ xb = true ∨ (c == 5) = true ∧ xb = true ∨ (c == 5) = true ∧ xb = false ∧ (x.dst == 0) = false) ∨ (c == 5) = true ∧ xb = false ∧ (x.dst == 0) = true := by
    cases (c == 5) <;> cases xb <;> cases (x.dst == 0) <;> simp
  by_cases k0 : k = 0
  · subst k0
    rw [if_pos rfl] at hr
    rcases four with (⟨h1, rfl⟩ | ⟨h1, rfl⟩ | ⟨h1, rfl⟩ | ⟨h1, rfl, h3⟩) | ⟨h1, rfl, h3⟩ <;> cases hs : (x.src == 0)
    all_goals
      try simp only [h1] at hr
      try simp only [h3] at hr
      try simp only [hs] at hr
      try simp only [ho] at hr
      try simp only [Bool.not_false, Bool.not_true, Bool.true_and, Bool.false_and, Bool.and_true, Bool.and_false, Bool.true_or, Bool.false_or, Bool.or_true, Bool.or_false, if_true, if_false, Bool.false_eq_true, reduceIte] at hr
      try simp only [Bool.not_false, Bool.not_true, Bool.true_and, Bool.false_and, Bool.and_true, Bool.and_false, Bool.true_or, Bool.false_or, Bool.or_true, Bool.or_false, if_true, if_false, Bool.false_eq_true, reduceIte] at h8
      subst hr
      go_enter Tryz.func176, Tryz.ntmps176
      go_wp2_with (first | (go_at_call 150; refine (HK.out _).mono ?_; rintro e w1 ⟨rfl, rfl⟩) | (go_at_call 149; refine (HC.out _).mono ?_; rintro e w1 ⟨rfl, rfl⟩))
      go_ret
      exact ⟨rfl, (Kept.refl _ w).alloc _⟩
  by_cases k8 : k = 8
  · subst k8
    rw [if_neg (by decide), if_pos rfl] at hr
    rcases four with (⟨h1, rfl⟩ | ⟨h1, rfl⟩ | ⟨h1, rfl⟩ | ⟨h1, rfl, h3⟩) | ⟨h1, rfl, h3⟩ <;> cases hs : (x.off == 0)
    all_goals
      try simp only [h1] at hr
      try simp only [h3] at hr
      try simp only [hs] at hr
      try simp only [ho] at hr
      try simp only [Bool.not_false, Bool.not_true, Bool.true_and, Bool.false_and, Bool.and_true, Bool.and_false, Bool.true_or, Bool.false_or, Bool.or_true, Bool.or_false, if_true, if_false, Bool.false_eq_true, reduceIte] at hr
      try simp only [Bool.not_false, Bool.not_true, Bool.true_and, Bool.false_and, Bool.and_true, Bool.and_false, Bool.true_or, Bool.false_or, Bool.or_true, Bool.or_false, if_true, if_false, Bool.false_eq_true, reduceIte] at h8
      subst hr
      go_enter Tryz.func176, Tryz.ntmps176
      go_wp2_with (first | (go_at_call 150; refine (HK.out _).mono ?_; rintro e w1 ⟨rfl, rfl⟩) | (go_at_call 149; refine (HC.out _).mono ?_; rintro e w1 ⟨rfl, rfl⟩))
      go_ret
      exact ⟨rfl, (Kept.refl _ w).alloc _⟩
  by_cases k9 : k = 9
  · subst k9
    rw [if_neg (by decide), if_neg (by decide), if_pos rfl] at hr
    rcases four with (⟨h1, rfl⟩ | ⟨h1, rfl⟩ | ⟨h1, rfl⟩ | ⟨h1, rfl, h3⟩) | ⟨h1, rfl, h3⟩ <;> cases hs : (x.src == 0) <;> cases ho : (x.off == 0)
    all_goals
      try simp only [h1] at hr
      try simp only [h3] at hr
      try simp only [hs] at hr
      try simp only [ho] at hr
      try simp only [Bool.not_false, Bool.not_true, Bool.true_and, Bool.false_and, Bool.and_true, Bool.and_false, Bool.true_or, Bool.false_or, Bool.or_true, Bool.or_false, if_true, if_false, Bool.false_eq_true, reduceIte] at hr
      try simp only [Bool.not_false, Bool.not_true, Bool.true_and, Bool.false_and, Bool.and_true, Bool.and_false, Bool.true_or, Bool.false_or, Bool.or_true, Bool.or_false, if_true, if_false, Bool.false_eq_true, reduceIte] at h8
      subst hr
      go_enter Tryz.func176, Tryz.ntmps176
      go_wp2_with (first | (go_at_call 150; refine (HK.out _).mono ?_; rintro e w1 ⟨rfl, rfl⟩) | (go_at_call 149; refine (HC.out _).mono ?_; rintro e w1 ⟨rfl, rfl⟩))
      go_ret
      exact ⟨rfl, (Kept.refl _ w).alloc _⟩
  rw [if_neg k0, if_neg k8, if_neg k9] at hr
  have k0d : (k == 0) = false := by simpa using k0
  have k8d : (k == 8) = false := by simpa using k8
  have k9d : (k == 9) = false := by simpa using k9
  clear k0 k8 k9
  rcases four with (⟨h1, rfl⟩ | ⟨h1, rfl⟩ | ⟨h1, rfl⟩ | ⟨h1, rfl, h3⟩) | ⟨h1, rfl, h3⟩ <;> cases hg : decide (k ≤ 13)
  all_goals
    simp only [hg, Bool.not_false, Bool.not_true, Bool.true_and, Bool.false_and, Bool.and_true, Bool.and_false, Bool.true_or, Bool.false_or, Bool.or_true, Bool.or_false, if_true, if_false, Bool.false_eq_true, reduceIte] at hr h8
    subst hr
  all_goals first
    | (
      go_enter Tryz.func176, Tryz.ntmps176
      go_wp2_with (first | (go_at_call 150; refine (HK.out _).mono ?_; rintro e w1 ⟨rfl, rfl⟩) | (go_at_call 149; refine (HC.out _).mono ?_; rintro e w1 ⟨rfl, rfl⟩) | (go_at_call 228; refine (HO.out _).mono ?_; rintro e w2 ⟨rfl, hk2⟩))
      go_ret
      exact ⟨rfl, ((Kept.refl _ w).alloc _).trans hk2 (fun _ _ h => h)⟩
    )
    | (
      go_enter Tryz.func176, Tryz.ntmps176
      go_wp2_with (first | (go_at_call 150; refine (HK.out _).mono ?_; rintro e w1 ⟨rfl, rfl⟩) | (go_at_call 149; refine (HC.out _).mono ?_; rintro e w1 ⟨rfl, rfl⟩))
      go_ret
      exact ⟨rfl, (Kept.refl _ w).alloc _⟩
    )

/-! ### memory -/
def memB (x : In) : Bool := if x.op = 97 ∨ x.op = 105 ∨ x.op = 113 ∨ x.op = 121 ∨ x.op = 99 ∨ x.op = 107 ∨ x.op = 115 ∨ x.op = 123 then x.imm == 0 else if x.op = 98 ∨ x.op = 106 ∨ x.op = 114 ∨ x.op = 122 then x.src == 0 else false
set_option maxHeartbeats 8000000 in
theorem memory_any (x : In) (w : World) (hx : InOk x) : Calls Tryz.prog 177 #[.agg (inVals x)] w fun e w' => e = .returned (.bool (memB x)) ∧ Kept (fun _ => False) w w' := by
  obtain ⟨op, dst, src, off, imm⟩ := x
  unfold memB
  by_cases h1 : op = 97 ∨ op = 105 ∨ op = 113 ∨ op = 121 ∨ op = 99 ∨ op = 107 ∨ op = 115 ∨ op = 123
  · rw [if_pos h1]
    rcases h1 with rfl | rfl | rfl | rfl | rfl | rfl | rfl | rfl
    all_goals
      go_enter Tryz.func177, Tryz.ntmps177
      go_wp2_with (fail)
      go_ret
      exact ⟨rfl, (Kept.refl _ w).alloc _⟩
  rw [if_neg h1]
  by_cases h2 : op = 98 ∨ op = 106 ∨ op = 114 ∨ op = 122
  · rw [if_pos h2]
    rcases h2 with rfl | rfl | rfl | rfl
    all_goals
      go_enter Tryz.func177, Tryz.ntmps177
      go_wp2_with (fail)
      go_ret
      exact ⟨rfl, (Kept.refl _ w).alloc _⟩
  rw [if_neg h2]
  have n97 : (op == 97) = false := by simp; omega
  have n105 : (op == 105) = false := by simp; omega
  have n113 : (op == 113) = false := by simp; omega
  have n121 : (op == 121) = false := by simp; omega
  have n99 : (op == 99) = false := by simp; omega
  have n107 : (op == 107) = false := by simp; omega
  have n115 : (op == 115) = false := by simp; omega
  have n123 : (op == 123) = false := by simp; omega
  have n98 : (op == 98) = false := by simp; omega
  have n106 : (op == 106) = false := by simp; omega
  have n114 : (op == 114) = false := by simp; omega
  have n122 : (op == 122) = false := by simp; omega
  clear h1 h2
  go_enter Tryz.func177, Tryz.ntmps177
  go_wp2_with (fail)
  go_ret
  exact ⟨rfl, (Kept.refl _ w).alloc _⟩

/-! ### Known -/
def knownB (x : In) : Bool := if clsI x = 4 ∨ clsI x = 7 then arithB x else if clsI x = 5 ∨ clsI x = 6 then jumpB x else if clsI x = 0 then ((x.op == 24) && (x.off == 0)) && (((x.src == 0) || (x.src == 1)) || (x.src == 4)) else memB x
set_option maxHeartbeats 8000000 in
theorem known1_any (x : In) (w : World) (hx : InOk x) : Calls Tryz.prog 144 #[.agg (inVals x)] w fun e w' => e = .returned (.bool (knownB x)) ∧ Kept (fun _ => False) w w' := by
  have HC := Lib.hid (fun W => class_any x.op W hx.op)
  have HA := Lib.hid (fun W => arith_any x W hx)
  have HJ := Lib.hid (fun W => jump_any x W hx)
  have HM := Lib.hid (fun W => memory_any x W hx)
  have hc0 : clsI x = x.op % 8 := rfl
  rw [← hc0] at HC
  obtain ⟨r, hr⟩ : ∃ r, knownB x = r := ⟨_, rfl⟩
  rw [hr]
  unfold knownB at hr
  have hcl : 0 ≤ clsI x ∧ clsI x ≤ 7 := by unfold clsI; have := hx.op; omega
  generalize clsI x = c at *
  generalize arithB x = ab at *
  generalize jumpB x = jb at *
  generalize memB x = mb at *
  clear hc0 hx
  by_cases hz : c = 0
  · subst hz
    simp only [reduceIte, Int.reduceEq, or_false, or_true, or_self, true_or] at hr
    cases ho : (x.op == 24) <;> cases hf : (x.off == 0) <;> cases hs : (x.src == 0) <;> cases h1 : (x.src == 1)
    all_goals
      try simp only [ho, hf, hs, h1, Bool.not_false, Bool.not_true, Bool.true_and, Bool.false_and, Bool.and_true, Bool.and_false, Bool.true_or, Bool.false_or, Bool.or_true, Bool.or_false, if_true, if_false, Bool.false_eq_true, reduceIte] at hr
      subst hr
      go_enter Tryz.func144, Tryz.ntmps144
      go_wp2_with ((go_at_call 149; refine (HC.out _).mono ?_; rintro e w1 ⟨rfl, rfl⟩))
      go_ret
      exact ⟨rfl, (Kept.refl _ w).alloc _⟩

  have hcs : c = 4 ∨ c = 7 ∨ c = 5 ∨ c = 6 ∨ c = 1 ∨ c = 2 ∨ c = 3 := by omega
  clear hcl hz
  rcases hcs with rfl | rfl | rfl | rfl | rfl | rfl | rfl
  all_goals
    simp only [reduceIte, Int.reduceEq, or_false, or_true, or_self, true_or] at hr
    subst hr
    go_enter Tryz.func144, Tryz.ntmps144
    go_wp2_with (first | (go_at_call 149; refine (HC.out _).mono ?_; rintro e w1 ⟨rfl, rfl⟩) | (go_at_call 175; refine (HA.out _).mono ?_; rintro e w2 ⟨rfl, hk2⟩) | (go_at_call 176; refine (HJ.out _).mono ?_; rintro e w2 ⟨rfl, hk2⟩) | (go_at_call 177; refine (HM.out _).mono ?_; rintro e w2 ⟨rfl, hk2⟩))
    go_ret
    exact ⟨rfl, ((Kept.refl _ w).alloc _).trans hk2 (fun _ _ h => h)⟩

/-! ### writes -/
def writesB (x : In) : Bool := (((clsI x == 0) || (clsI x == 1)) || (clsI x == 4)) || (clsI x == 7)
set_option maxHeartbeats 8000000 in
theorem writes_any (x : In) (w : World) (hx : InOk x) : Calls Tryz.prog 145 #[.agg (inVals x)] w fun e w' => e = .returned (.bool (writesB x)) ∧ Kept (fun _ => False) w w' := by
  have HC := Lib.hid (fun W => class_any x.op W hx.op)
  have hc0 : clsI x = x.op % 8 := rfl
  rw [← hc0] at HC
  obtain ⟨r, hr⟩ : ∃ r, writesB x = r := ⟨_, rfl⟩
  rw [hr]
  unfold writesB at hr
  generalize clsI x = c at *
  clear hc0 hx
  cases h0 : (c == 0) <;> cases h1 : (c == 1) <;> cases h4 : (c == 4)
  all_goals
    simp only [*, Bool.not_false, Bool.not_true, Bool.true_and, Bool.false_and, Bool.and_true, Bool.and_false, Bool.true_or, Bool.false_or, Bool.or_true, Bool.or_false, if_true, if_false, Bool.false_eq_true, reduceIte] at hr
    subst hr
    go_enter Tryz.func145, Tryz.ntmps145
    go_wp2_with ((go_at_call 149; refine (HC.out _).mono ?_; rintro e w1 ⟨rfl, rfl⟩))
    go_ret
    exact ⟨rfl, (Kept.refl _ w).alloc _⟩

end Go.Proofs.YtdchmelgaljpfaaGreat
