import Derived.Test.YtdchmelgaljpfaaGreatJn
set_option linter.unusedSimpArgs false
set_option linter.unusedVariables false
namespace Go.Proofs.YtdchmelgaljpfaaGreat
open Go.RowKit

/-! ### the document's Known -/
set_option maxHeartbeats 16000000 in
set_option maxRecDepth 100000 in
theorem rknown2 (x : In) (w : World) (hx : InOk x) (hcs : (clsI x = 4 ∨ clsI x = 7) ∨ False) : Calls Tryz.prog 116 #[.agg (inVals x)] w fun e w' => e = .returned (.bool (knownB x)) ∧ Kept (fun _ => False) w w' := by
  have HC := Lib.hid (fun W => rclass_any x W hx)
  have HK := Lib.hid (fun W => rcode_any x W hx)
  have HX := Lib.hid (fun W => rx_any x W hx)
  have HS := Lib.hid (fun W => rsize_any x W hx)
  have HW := Lib.hid (fun W => rwide_any x W)
  obtain ⟨hm1, hm2⟩ := memB_size hx
  obtain ⟨r, hr⟩ : ∃ r, knownB x = r := ⟨_, rfl⟩
  rw [hr]
  unfold knownB arithB jumpB wholeJ operandB at hr
  clear hx
  generalize clsI x = c at *
  generalize codeI x = k at *
  generalize xB x = xb at *
  generalize sizeC x = sz at *
  rcases hcs with hc47 | hff
  case inr =>
    exact hff.elim
  case inl =>
    clear hm1 hm2
    rw [if_pos (by omega)] at hr
    by_cases ho : x.off = 0
    case neg =>
      rw [if_neg ho] at hr
      have ho2 : (x.off == 0) = false := by simpa using ho
      clear ho
      subst hr
      have hks : k = 8 ∨ k = 13 ∨ ((k == 8) = false ∧ (k == 13) = false ∧ decide (13 < k) = true) ∨ ((k == 8) = false ∧ (k == 13) = false ∧ decide (13 < k) = false) := by
        by_cases h8 : k = 8
        · exact .inl h8
        by_cases h13 : k = 13
        · exact .inr (.inl h13)
        by_cases hg : 13 < k
        · exact .inr (.inr (.inl ⟨by simpa using h8, by simpa using h13, decide_eq_true hg⟩))
        · exact .inr (.inr (.inr ⟨by simpa using h8, by simpa using h13, decide_eq_false hg⟩))
      rcases hc47 with rfl | rfl <;> rcases hks with rfl | rfl | ⟨k1, k2, k3⟩ | ⟨k1, k2, k3⟩ <;> cases xb
      all_goals
        go_enter Tryz.func116, Tryz.ntmps116
        go_wp2_with (first | (go_at_call 26; refine (HC.out _).mono ?_; rintro e w2 ⟨rfl, rfl⟩) | (go_at_call 27; refine (HK.out _).mono ?_; rintro e w2 ⟨rfl, rfl⟩) | (go_at_call 28; refine (HX.out _).mono ?_; rintro e w2 ⟨rfl, rfl⟩) | (go_at_call 155; refine (HS.out _).mono ?_; rintro e w2 ⟨rfl, rfl⟩) | (go_at_call 77; refine (HW.out _).mono ?_; rintro e w2 ⟨rfl, rfl⟩))
        all_goals
          go_ret
          exact ⟨rfl, by repeat (first | exact Kept.refl _ _ | refine Kept.alloc ?_ _)⟩
    case pos =>
      rw [if_pos ho] at hr
      have ho2 : (x.off == 0) = true := by simpa using ho
      clear ho
      by_cases h8 : k = 8
      · subst h8
        rw [if_pos rfl] at hr
        rcases hc47 with rfl | rfl <;> cases xb <;> cases hs : (x.src == 0)
        all_goals
          try simp only [hs] at hr
          try simp only [Bool.not_false, Bool.not_true, Bool.true_and, Bool.false_and, Bool.and_true, Bool.and_false, Bool.true_or, Bool.false_or, Bool.or_true, Bool.or_false, if_true, if_false, Bool.false_eq_true, reduceIte, Int.reduceBEq] at hr
          subst hr
          go_enter Tryz.func116, Tryz.ntmps116
          go_wp2_with (first | (go_at_call 26; refine (HC.out _).mono ?_; rintro e w2 ⟨rfl, rfl⟩) | (go_at_call 27; refine (HK.out _).mono ?_; rintro e w2 ⟨rfl, rfl⟩) | (go_at_call 28; refine (HX.out _).mono ?_; rintro e w2 ⟨rfl, rfl⟩) | (go_at_call 155; refine (HS.out _).mono ?_; rintro e w2 ⟨rfl, rfl⟩) | (go_at_call 77; refine (HW.out _).mono ?_; rintro e w2 ⟨rfl, rfl⟩))
          all_goals
            go_ret
            exact ⟨rfl, by repeat (first | exact Kept.refl _ _ | refine Kept.alloc ?_ _)⟩
      rw [if_neg h8] at hr
      have k1 : (k == 8) = false := by simpa using h8
      by_cases h13 : k = 13
      · subst h13
        rw [if_pos rfl] at hr
        clear h8 k1
        have him : ((x.imm == 16) = true ∨ (x.imm == 16) = false ∧ (x.imm == 32) = true ∨ (x.imm == 16) = false ∧ (x.imm == 32) = false ∧ (x.imm == 64) = true) ∨ (x.imm == 16) = false ∧ (x.imm == 32) = false ∧ (x.imm == 64) = false := by
          cases (x.imm == 16) <;> cases (x.imm == 32) <;> cases (x.imm == 64) <;> simp
        rcases hc47 with rfl | rfl <;> rcases him with (i1 | ⟨i1, i2⟩ | ⟨i1, i2, i3⟩) | ⟨i1, i2, i3⟩ <;> cases xb <;> cases hs : (x.src == 0)
        all_goals
          try simp only [hs] at hr
          try simp only [i1] at hr
          try simp only [i2] at hr
          try simp only [i3] at hr
          try simp only [Bool.not_false, Bool.not_true, Bool.true_and, Bool.false_and, Bool.and_true, Bool.and_false, Bool.true_or, Bool.false_or, Bool.or_true, Bool.or_false, if_true, if_false, Bool.false_eq_true, reduceIte, Int.reduceBEq] at hr
          subst hr
          go_enter Tryz.func116, Tryz.ntmps116
          go_wp2_with (first | (go_at_call 26; refine (HC.out _).mono ?_; rintro e w2 ⟨rfl, rfl⟩) | (go_at_call 27; refine (HK.out _).mono ?_; rintro e w2 ⟨rfl, rfl⟩) | (go_at_call 28; refine (HX.out _).mono ?_; rintro e w2 ⟨rfl, rfl⟩) | (go_at_call 155; refine (HS.out _).mono ?_; rintro e w2 ⟨rfl, rfl⟩) | (go_at_call 77; refine (HW.out _).mono ?_; rintro e w2 ⟨rfl, rfl⟩))
          all_goals
            go_ret
            exact ⟨rfl, by repeat (first | exact Kept.refl _ _ | refine Kept.alloc ?_ _)⟩
      rw [if_neg h13] at hr
      have k2 : (k == 13) = false := by simpa using h13
      clear h8 h13
      by_cases hg : 13 < k
      · rw [if_pos hg] at hr
        have k3 : decide (13 < k) = true := decide_eq_true hg
        clear hg
        subst hr
        rcases hc47 with rfl | rfl <;> cases xb
        all_goals
          go_enter Tryz.func116, Tryz.ntmps116
          go_wp2_with (first | (go_at_call 26; refine (HC.out _).mono ?_; rintro e w2 ⟨rfl, rfl⟩) | (go_at_call 27; refine (HK.out _).mono ?_; rintro e w2 ⟨rfl, rfl⟩) | (go_at_call 28; refine (HX.out _).mono ?_; rintro e w2 ⟨rfl, rfl⟩) | (go_at_call 155; refine (HS.out _).mono ?_; rintro e w2 ⟨rfl, rfl⟩) | (go_at_call 77; refine (HW.out _).mono ?_; rintro e w2 ⟨rfl, rfl⟩))
          all_goals
            go_ret
            exact ⟨rfl, by repeat (first | exact Kept.refl _ _ | refine Kept.alloc ?_ _)⟩
      · rw [if_neg hg] at hr
        have k3 : decide (13 < k) = false := decide_eq_false hg
        clear hg
        rcases hc47 with rfl | rfl <;> cases xb <;> cases hi : (x.imm == 0)
        all_goals
          try simp only [hi] at hr
          try simp only [Bool.not_false, Bool.not_true, Bool.true_and, Bool.false_and, Bool.and_true, Bool.and_false, Bool.true_or, Bool.false_or, Bool.or_true, Bool.or_false, if_true, if_false, Bool.false_eq_true, reduceIte, Int.reduceBEq] at hr
          subst hr
          go_enter Tryz.func116, Tryz.ntmps116
          go_wp2_with (first | (go_at_call 26; refine (HC.out _).mono ?_; rintro e w2 ⟨rfl, rfl⟩) | (go_at_call 27; refine (HK.out _).mono ?_; rintro e w2 ⟨rfl, rfl⟩) | (go_at_call 28; refine (HX.out _).mono ?_; rintro e w2 ⟨rfl, rfl⟩) | (go_at_call 155; refine (HS.out _).mono ?_; rintro e w2 ⟨rfl, rfl⟩) | (go_at_call 77; refine (HW.out _).mono ?_; rintro e w2 ⟨rfl, rfl⟩))
          all_goals
            go_ret
            exact ⟨rfl, by repeat (first | exact Kept.refl _ _ | refine Kept.alloc ?_ _)⟩

end Go.Proofs.YtdchmelgaljpfaaGreat
