import Derived.Test.YtdchmelgaljpfaaGreatJn
set_option linter.unusedSimpArgs false
set_option linter.unusedVariables false
namespace Go.Proofs.YtdchmelgaljpfaaGreat
open Go.RowKit

/-! ### the document's Known -/
set_option maxHeartbeats 16000000 in
set_option maxRecDepth 100000 in
theorem rknown4 (x : In) (w : World) (hx : InOk x) (hcs : clsI x = 6 ∨ False) : Calls Tryz.prog 116 #[.agg (inVals x)] w fun e w' => e = .returned (.bool (knownB x)) ∧ Kept (fun _ => False) w w' := by
  have HC := Lib.hid (fun W => rclass_any x W hx)
  have HK := Lib.hid (fun W => rcode_any x W hx)
  have HX := Lib.hid (fun W => rx_any x W hx)
  have HS := Lib.hid (fun W => rsize_any x W hx)
  have HW := Lib.hid (fun W => rwide_any x W)
  obtain ⟨hm1, hm2⟩ := memB_size hx
  obtain ⟨r, hr⟩ : ∃ r, knownB x = r := ⟨_, rfl⟩
  rw [hr]
  unfold knownB arithB jumpB wholeJ operandB at hr
  clear hx
  generalize clsI x = c at *
  generalize codeI x = k at *
  generalize xB x = xb at *
  generalize sizeC x = sz at *
  rcases hcs with rfl | hff
  case inr =>
    exact hff.elim
  case inl =>
    clear hm1 hm2
    rw [if_neg (by omega), if_pos (by omega)] at hr
    by_cases h0 : k = 0
    · subst h0
      rw [if_pos rfl] at hr
      cases xb <;> cases hs : (x.src == 0) <;> cases ho : (x.off == 0)
      all_goals
        try simp only [hd] at hr
        try simp only [ho] at hr
        try simp only [hs] at hr
        try simp only [Bool.not_false, Bool.not_true, Bool.true_and, Bool.false_and, Bool.and_true, Bool.and_false, Bool.true_or, Bool.false_or, Bool.or_true, Bool.or_false, if_true, if_false, Bool.false_eq_true, reduceIte, Int.reduceBEq] at hr
        subst hr
        go_enter Tryz.func116, Tryz.ntmps116
        go_wp2_with (first | (go_at_call 26; refine (HC.out _).mono ?_; rintro e w2 ⟨rfl, rfl⟩) | (go_at_call 27; refine (HK.out _).mono ?_; rintro e w2 ⟨rfl, rfl⟩) | (go_at_call 28; refine (HX.out _).mono ?_; rintro e w2 ⟨rfl, rfl⟩) | (go_at_call 155; refine (HS.out _).mono ?_; rintro e w2 ⟨rfl, rfl⟩) | (go_at_call 77; refine (HW.out _).mono ?_; rintro e w2 ⟨rfl, rfl⟩))
        all_goals
          go_ret
          exact ⟨rfl, by repeat (first | exact Kept.refl _ _ | refine Kept.alloc ?_ _)⟩
    rw [if_neg h0] at hr
    by_cases h8 : k = 8
    · subst h8
      rw [if_pos rfl] at hr
      cases xb <;> cases ho : (x.off == 0)
      all_goals
        try simp only [hd] at hr
        try simp only [ho] at hr
        try simp only [hs] at hr
        try simp only [Bool.not_false, Bool.not_true, Bool.true_and, Bool.false_and, Bool.and_true, Bool.and_false, Bool.true_or, Bool.false_or, Bool.or_true, Bool.or_false, if_true, if_false, Bool.false_eq_true, reduceIte, Int.reduceBEq] at hr
        subst hr
        go_enter Tryz.func116, Tryz.ntmps116
        go_wp2_with (first | (go_at_call 26; refine (HC.out _).mono ?_; rintro e w2 ⟨rfl, rfl⟩) | (go_at_call 27; refine (HK.out _).mono ?_; rintro e w2 ⟨rfl, rfl⟩) | (go_at_call 28; refine (HX.out _).mono ?_; rintro e w2 ⟨rfl, rfl⟩) | (go_at_call 155; refine (HS.out _).mono ?_; rintro e w2 ⟨rfl, rfl⟩) | (go_at_call 77; refine (HW.out _).mono ?_; rintro e w2 ⟨rfl, rfl⟩))
        all_goals
          go_ret
          exact ⟨rfl, by repeat (first | exact Kept.refl _ _ | refine Kept.alloc ?_ _)⟩
    rw [if_neg h8] at hr
    by_cases h9 : k = 9
    · subst h9
      rw [if_pos rfl] at hr
      cases xb <;> cases hs : (x.src == 0) <;> cases ho : (x.off == 0)
      all_goals
        try simp only [hd] at hr
        try simp only [ho] at hr
        try simp only [hs] at hr
        try simp only [Bool.not_false, Bool.not_true, Bool.true_and, Bool.false_and, Bool.and_true, Bool.and_false, Bool.true_or, Bool.false_or, Bool.or_true, Bool.or_false, if_true, if_false, Bool.false_eq_true, reduceIte, Int.reduceBEq] at hr
        subst hr
        go_enter Tryz.func116, Tryz.ntmps116
        go_wp2_with (first | (go_at_call 26; refine (HC.out _).mono ?_; rintro e w2 ⟨rfl, rfl⟩) | (go_at_call 27; refine (HK.out _).mono ?_; rintro e w2 ⟨rfl, rfl⟩) | (go_at_call 28; refine (HX.out _).mono ?_; rintro e w2 ⟨rfl, rfl⟩) | (go_at_call 155; refine (HS.out _).mono ?_; rintro e w2 ⟨rfl, rfl⟩) | (go_at_call 77; refine (HW.out _).mono ?_; rintro e w2 ⟨rfl, rfl⟩))
        all_goals
          go_ret
          exact ⟨rfl, by repeat (first | exact Kept.refl _ _ | refine Kept.alloc ?_ _)⟩
    rw [if_neg h9] at hr
    have k1 : (k == 8) = false := by simpa using h8
    have k2 : (k == 0) = false := by simpa using h0
    have k3 : (k == 9) = false := by simpa using h9
    clear h0 h8 h9
    have hg2 : decide (k ≤ 13) = !decide (13 < k) := by
      by_cases h : 13 < k
      · rw [decide_eq_true h, decide_eq_false (by omega)]; rfl
      · rw [decide_eq_false h, decide_eq_true (by omega)]; rfl
    rw [hg2] at hr
    clear hg2
    cases xb <;> cases hg : decide (13 < k) <;> cases hi : (x.imm == 0) <;> cases ho : (x.off == 0)
    all_goals
      try simp only [hg] at hr
      try simp only [hi] at hr
      try simp only [Bool.not_false, Bool.not_true, Bool.true_and, Bool.false_and, Bool.and_true, Bool.and_false, Bool.true_or, Bool.false_or, Bool.or_true, Bool.or_false, if_true, if_false, Bool.false_eq_true, reduceIte, Int.reduceBEq] at hr
      subst hr
      go_enter Tryz.func116, Tryz.ntmps116
      go_wp2_with (first | (go_at_call 26; refine (HC.out _).mono ?_; rintro e w2 ⟨rfl, rfl⟩) | (go_at_call 27; refine (HK.out _).mono ?_; rintro e w2 ⟨rfl, rfl⟩) | (go_at_call 28; refine (HX.out _).mono ?_; rintro e w2 ⟨rfl, rfl⟩) | (go_at_call 155; refine (HS.out _).mono ?_; rintro e w2 ⟨rfl, rfl⟩) | (go_at_call 77; refine (HW.out _).mono ?_; rintro e w2 ⟨rfl, rfl⟩))
      all_goals
        go_ret
        exact ⟨rfl, by repeat (first | exact Kept.refl _ _ | refine Kept.alloc ?_ _)⟩

end Go.Proofs.YtdchmelgaljpfaaGreat
