import Derived.Test.YtdchmelgaljpfaaGreatJn
set_option linter.unusedSimpArgs false
set_option linter.unusedVariables false
namespace Go.Proofs.YtdchmelgaljpfaaGreat
open Go.RowKit

/-! ### the document's Known -/
set_option maxHeartbeats 16000000 in
set_option maxRecDepth 100000 in
theorem rknown1 (x : In) (w : World) (hx : InOk x) (hcs : clsI x = 0 ∨ clsI x = 1 ∨ clsI x = 3 ∨ clsI x = 2) : Calls Tryz.prog 116 #[.agg (inVals x)] w fun e w' => e = .returned (.bool (knownB x)) ∧ Kept (fun _ => False) w w' := by
  have HC := Lib.hid (fun W => rclass_any x W hx)
  have HK := Lib.hid (fun W => rcode_any x W hx)
  have HX := Lib.hid (fun W => rx_any x W hx)
  have HS := Lib.hid (fun W => rsize_any x W hx)
  have HW := Lib.hid (fun W => rwide_any x W)
  obtain ⟨hm1, hm2⟩ := memB_size hx
  obtain ⟨r, hr⟩ : ∃ r, knownB x = r := ⟨_, rfl⟩
  rw [hr]
  unfold knownB arithB jumpB wholeJ operandB at hr
  clear hx
  generalize clsI x = c at *
  generalize codeI x = k at *
  generalize xB x = xb at *
  generalize sizeC x = sz at *
  rcases hcs with rfl | rfl | rfl | rfl
  case inl =>
    simp only [reduceIte, Int.reduceEq, or_false, or_true, or_self, true_or] at hr
    clear hm1 hm2
    cases ho : (x.op == 24) <;> cases hf : (x.off == 0) <;> cases hs : (x.src == 0) <;> cases h1 : (x.src == 1)
    all_goals
      try simp only [ho] at hr
      try simp only [hf] at hr
      try simp only [hs] at hr
      try simp only [h1] at hr
      try simp only [Bool.not_false, Bool.not_true, Bool.true_and, Bool.false_and, Bool.and_true, Bool.and_false, Bool.true_or, Bool.false_or, Bool.or_true, Bool.or_false, if_true, if_false, Bool.false_eq_true, reduceIte, Int.reduceBEq] at hr
      subst hr
      go_enter Tryz.func116, Tryz.ntmps116
      go_wp2_with (first | (go_at_call 26; refine (HC.out _).mono ?_; rintro e w2 ⟨rfl, rfl⟩) | (go_at_call 27; refine (HK.out _).mono ?_; rintro e w2 ⟨rfl, rfl⟩) | (go_at_call 28; refine (HX.out _).mono ?_; rintro e w2 ⟨rfl, rfl⟩) | (go_at_call 155; refine (HS.out _).mono ?_; rintro e w2 ⟨rfl, rfl⟩) | (go_at_call 77; refine (HW.out _).mono ?_; rintro e w2 ⟨rfl, rfl⟩))
      all_goals
        go_ret
        exact ⟨rfl, by repeat (first | exact Kept.refl _ _ | refine Kept.alloc ?_ _)⟩
  case inr.inl =>
    simp only [reduceIte, Int.reduceEq, or_false, or_true, or_self, true_or] at hr
    rw [hm1 (.inl rfl)] at hr
    clear hm1 hm2
    cases hq : decide (0 < sz) <;> cases ho : (x.off == 0)
    all_goals
      try simp only [hq] at hr
      try simp only [Bool.not_false, Bool.not_true, Bool.true_and, Bool.false_and, Bool.and_true, Bool.and_false, Bool.true_or, Bool.false_or, Bool.or_true, Bool.or_false, if_true, if_false, Bool.false_eq_true, reduceIte, Int.reduceBEq] at hr
      subst hr
      go_enter Tryz.func116, Tryz.ntmps116
      go_wp2_with (first | (go_at_call 26; refine (HC.out _).mono ?_; rintro e w2 ⟨rfl, rfl⟩) | (go_at_call 27; refine (HK.out _).mono ?_; rintro e w2 ⟨rfl, rfl⟩) | (go_at_call 28; refine (HX.out _).mono ?_; rintro e w2 ⟨rfl, rfl⟩) | (go_at_call 155; refine (HS.out _).mono ?_; rintro e w2 ⟨rfl, rfl⟩) | (go_at_call 77; refine (HW.out _).mono ?_; rintro e w2 ⟨rfl, rfl⟩))
      all_goals
        go_ret
        exact ⟨rfl, by repeat (first | exact Kept.refl _ _ | refine Kept.alloc ?_ _)⟩
  case inr.inr.inl =>
    simp only [reduceIte, Int.reduceEq, or_false, or_true, or_self, true_or] at hr
    rw [hm1 (.inr rfl)] at hr
    clear hm1 hm2
    cases hq : decide (0 < sz) <;> cases ho : (x.off == 0)
    all_goals
      try simp only [hq] at hr
      try simp only [Bool.not_false, Bool.not_true, Bool.true_and, Bool.false_and, Bool.and_true, Bool.and_false, Bool.true_or, Bool.false_or, Bool.or_true, Bool.or_false, if_true, if_false, Bool.false_eq_true, reduceIte, Int.reduceBEq] at hr
      subst hr
      go_enter Tryz.func116, Tryz.ntmps116
      go_wp2_with (first | (go_at_call 26; refine (HC.out _).mono ?_; rintro e w2 ⟨rfl, rfl⟩) | (go_at_call 27; refine (HK.out _).mono ?_; rintro e w2 ⟨rfl, rfl⟩) | (go_at_call 28; refine (HX.out _).mono ?_; rintro e w2 ⟨rfl, rfl⟩) | (go_at_call 155; refine (HS.out _).mono ?_; rintro e w2 ⟨rfl, rfl⟩) | (go_at_call 77; refine (HW.out _).mono ?_; rintro e w2 ⟨rfl, rfl⟩))
      all_goals
        go_ret
        exact ⟨rfl, by repeat (first | exact Kept.refl _ _ | refine Kept.alloc ?_ _)⟩
  case inr.inr.inr =>
    simp only [reduceIte, Int.reduceEq, or_false, or_true, or_self, true_or] at hr
    rw [hm2 rfl] at hr
    clear hm1 hm2
    cases hq : decide (0 < sz) <;> cases ho : (x.off == 0)
    all_goals
      try simp only [hq] at hr
      try simp only [Bool.not_false, Bool.not_true, Bool.true_and, Bool.false_and, Bool.and_true, Bool.and_false, Bool.true_or, Bool.false_or, Bool.or_true, Bool.or_false, if_true, if_false, Bool.false_eq_true, reduceIte, Int.reduceBEq] at hr
      subst hr
      go_enter Tryz.func116, Tryz.ntmps116
      go_wp2_with (first | (go_at_call 26; refine (HC.out _).mono ?_; rintro e w2 ⟨rfl, rfl⟩) | (go_at_call 27; refine (HK.out _).mono ?_; rintro e w2 ⟨rfl, rfl⟩) | (go_at_call 28; refine (HX.out _).mono ?_; rintro e w2 ⟨rfl, rfl⟩) | (go_at_call 155; refine (HS.out _).mono ?_; rintro e w2 ⟨rfl, rfl⟩) | (go_at_call 77; refine (HW.out _).mono ?_; rintro e w2 ⟨rfl, rfl⟩))
      all_goals
        go_ret
        exact ⟨rfl, by repeat (first | exact Kept.refl _ _ | refine Kept.alloc ?_ _)⟩

end Go.Proofs.YtdchmelgaljpfaaGreat
