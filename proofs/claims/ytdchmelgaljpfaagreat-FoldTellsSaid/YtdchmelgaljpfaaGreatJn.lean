import Derived.Test.YtdchmelgaljpfaaGreatJm
set_option linter.unusedSimpArgs false
set_option linter.unusedVariables false
namespace Go.Proofs.YtdchmelgaljpfaaGreat
open Go.RowKit

/-! ### the document's slots -/
theorem xB_eq {x : In} (h : InOk x) : (x.op / 8 % 2 == 1) = xB x := by
  unfold xB
  rw [Bool.eq_iff_iff]
  simp
  omega
set_option maxHeartbeats 1000000 in
theorem rclass_any (x : In) (w : World) (hx : InOk x) : Calls Tryz.prog 26 #[.agg (inVals x)] w fun e w' => e = .returned (.int .i64 (clsI x)) ∧ w' = w.alloc (.cells (inVals x) 75) := by
  have hop := hx.op
  go_enter Tryz.func26, Tryz.ntmps26
  go_wp2_with (fail)
  go_ret
  exact ⟨rfl, rfl⟩

set_option maxHeartbeats 1000000 in
theorem rcode_any (x : In) (w : World) (hx : InOk x) : Calls Tryz.prog 27 #[.agg (inVals x)] w fun e w' => e = .returned (.int .i64 (codeI x)) ∧ w' = w.alloc (.cells (inVals x) 75) := by
  have hop := hx.op
  go_enter Tryz.func27, Tryz.ntmps27
  go_wp2_with (fail)
  go_ret
  exact ⟨rfl, rfl⟩

set_option maxHeartbeats 1000000 in
theorem rx_any (x : In) (w : World) (hx : InOk x) : Calls Tryz.prog 28 #[.agg (inVals x)] w fun e w' => e = .returned (.bool (xB x)) ∧ w' = w.alloc (.cells (inVals x) 75) := by
  have hop := hx.op
  rw [← xB_eq hx]
  go_enter Tryz.func28, Tryz.ntmps28
  go_wp2_with (fail)
  go_ret
  exact ⟨rfl, rfl⟩

set_option maxHeartbeats 1000000 in
theorem rwide_any (x : In) (w : World) : Calls Tryz.prog 77 #[.agg (inVals x)] w fun e w' => e = .returned (.bool (x.op == 24)) ∧ w' = w.alloc (.cells (inVals x) 75) := by
  go_enter Tryz.func77, Tryz.ntmps77
  go_wp2_with (fail)
  go_ret
  exact ⟨rfl, rfl⟩

def sizeC (x : In) : Int := if x.op = 97 ∨ x.op = 98 ∨ x.op = 99 then 4 else if x.op = 105 ∨ x.op = 106 ∨ x.op = 107 then 2 else if x.op = 113 ∨ x.op = 114 ∨ x.op = 115 then 1 else if x.op = 121 ∨ x.op = 122 ∨ x.op = 123 then 8 else 0
set_option maxHeartbeats 4000000 in
theorem rsize_any (x : In) (w : World) (hx : InOk x) : Calls Tryz.prog 155 #[.agg (inVals x)] w fun e w' => e = .returned (.int .i64 (sizeC x)) ∧ w' = (w.alloc (.cells (inVals x) 75)).alloc (.cells (inVals x) 75) := by
  have hop := hx.op
  have HC := Lib.hid (fun W => rclass_any x W hx)
  obtain ⟨r, hr⟩ : ∃ r, sizeC x = r := ⟨_, rfl⟩
  rw [hr]
  unfold sizeC at hr
  obtain ⟨c, hcl⟩ : ∃ c, x.op % 8 = c := ⟨_, rfl⟩
  have hc0 : clsI x = c := hcl
  rw [hc0] at HC
  clear hc0 hx
  have hcs : c = 1 ∨ c = 2 ∨ c = 3 ∨ c < 1 ∨ 3 < c := by omega
  obtain ⟨op, dst, src, off, imm⟩ := x
  simp only at hop hcl hr
  rcases hcs with rfl | rfl | rfl | hc | hc
  case inr.inr.inr.inl =>
    rw [if_neg (by omega), if_neg (by omega), if_neg (by omega), if_neg (by omega)] at hr
    subst hr
    have hd : decide (c < 1) = true := decide_eq_true hc
    clear hc hcl hop
    go_enter Tryz.func155, Tryz.ntmps155
    go_wp2_with ((go_at_call 26; refine (HC.out _).mono ?_; rintro e w2 ⟨rfl, rfl⟩))
    go_ret
    exact ⟨rfl, rfl⟩
  case inr.inr.inr.inr =>
    rw [if_neg (by omega), if_neg (by omega), if_neg (by omega), if_neg (by omega)] at hr
    subst hr
    have hd : decide (c < 1) = false := decide_eq_false (by omega)
    have hd2 : decide (3 < c) = true := decide_eq_true hc
    clear hc hcl hop
    go_enter Tryz.func155, Tryz.ntmps155
    go_wp2_with ((go_at_call 26; refine (HC.out _).mono ?_; rintro e w2 ⟨rfl, rfl⟩))
    go_ret
    exact ⟨rfl, rfl⟩
  case inl =>
    by_cases h96 : op = 97
    · subst h96
      simp only [Int.reduceEq, reduceIte, or_false, or_true, or_self, false_or, true_or] at hr
      subst hr
      clear hcl hop
      go_enter Tryz.func155, Tryz.ntmps155
      go_wp2_with ((go_at_call 26; refine (HC.out _).mono ?_; rintro e w2 ⟨rfl, rfl⟩))
      go_ret
      exact ⟨rfl, rfl⟩
    by_cases h104 : op = 105
    · subst h104
      simp only [Int.reduceEq, reduceIte, or_false, or_true, or_self, false_or, true_or] at hr
      subst hr
      clear hcl hop
      go_enter Tryz.func155, Tryz.ntmps155
      go_wp2_with ((go_at_call 26; refine (HC.out _).mono ?_; rintro e w2 ⟨rfl, rfl⟩))
      go_ret
      exact ⟨rfl, rfl⟩
    by_cases h112 : op = 113
    · subst h112
      simp only [Int.reduceEq, reduceIte, or_false, or_true, or_self, false_or, true_or] at hr
      subst hr
      clear hcl hop
      go_enter Tryz.func155, Tryz.ntmps155
      go_wp2_with ((go_at_call 26; refine (HC.out _).mono ?_; rintro e w2 ⟨rfl, rfl⟩))
      go_ret
      exact ⟨rfl, rfl⟩
    by_cases h120 : op = 121
    · subst h120
      simp only [Int.reduceEq, reduceIte, or_false, or_true, or_self, false_or, true_or] at hr
      subst hr
      clear hcl hop
      go_enter Tryz.func155, Tryz.ntmps155
      go_wp2_with ((go_at_call 26; refine (HC.out _).mono ?_; rintro e w2 ⟨rfl, rfl⟩))
      go_ret
      exact ⟨rfl, rfl⟩
    rw [if_neg (by omega), if_neg (by omega), if_neg (by omega), if_neg (by omega)] at hr
    subst hr
    have n96 : (op - 1 == 96) = false := by simp; omega
    have m96 : (op == 97) = false := by simp; omega
    have n104 : (op - 1 == 104) = false := by simp; omega
    have m104 : (op == 105) = false := by simp; omega
    have n112 : (op - 1 == 112) = false := by simp; omega
    have m112 : (op == 113) = false := by simp; omega
    have n120 : (op - 1 == 120) = false := by simp; omega
    have m120 : (op == 121) = false := by simp; omega
    have hge : 1 ≤ op := by omega
    clear h96 h104 h112 h120 hcl
    go_enter Tryz.func155, Tryz.ntmps155
    go_wp2_with ((go_at_call 26; refine (HC.out _).mono ?_; rintro e w2 ⟨rfl, rfl⟩))
    go_ret
    exact ⟨rfl, rfl⟩
  case inr.inl =>
    by_cases h96 : op = 98
    · subst h96
      simp only [Int.reduceEq, reduceIte, or_false, or_true, or_self, false_or, true_or] at hr
      subst hr
      clear hcl hop
      go_enter Tryz.func155, Tryz.ntmps155
      go_wp2_with ((go_at_call 26; refine (HC.out _).mono ?_; rintro e w2 ⟨rfl, rfl⟩))
      go_ret
      exact ⟨rfl, rfl⟩
    by_cases h104 : op = 106
    · subst h104
      simp only [Int.reduceEq, reduceIte, or_false, or_true, or_self, false_or, true_or] at hr
      subst hr
      clear hcl hop
      go_enter Tryz.func155, Tryz.ntmps155
      go_wp2_with ((go_at_call 26; refine (HC.out _).mono ?_; rintro e w2 ⟨rfl, rfl⟩))
      go_ret
      exact ⟨rfl, rfl⟩
    by_cases h112 : op = 114
    · subst h112
      simp only [Int.reduceEq, reduceIte, or_false, or_true, or_self, false_or, true_or] at hr
      subst hr
      clear hcl hop
      go_enter Tryz.func155, Tryz.ntmps155
      go_wp2_with ((go_at_call 26; refine (HC.out _).mono ?_; rintro e w2 ⟨rfl, rfl⟩))
      go_ret
      exact ⟨rfl, rfl⟩
    by_cases h120 : op = 122
    · subst h120
      simp only [Int.reduceEq, reduceIte, or_false, or_true, or_self, false_or, true_or] at hr
      subst hr
      clear hcl hop
      go_enter Tryz.func155, Tryz.ntmps155
      go_wp2_with ((go_at_call 26; refine (HC.out _).mono ?_; rintro e w2 ⟨rfl, rfl⟩))
      go_ret
      exact ⟨rfl, rfl⟩
    rw [if_neg (by omega), if_neg (by omega), if_neg (by omega), if_neg (by omega)] at hr
    subst hr
    have n96 : (op - 2 == 96) = false := by simp; omega
    have m96 : (op == 98) = false := by simp; omega
    have n104 : (op - 2 == 104) = false := by simp; omega
    have m104 : (op == 106) = false := by simp; omega
    have n112 : (op - 2 == 112) = false := by simp; omega
    have m112 : (op == 114) = false := by simp; omega
    have n120 : (op - 2 == 120) = false := by simp; omega
    have m120 : (op == 122) = false := by simp; omega
    have hge : 2 ≤ op := by omega
    clear h96 h104 h112 h120 hcl
    go_enter Tryz.func155, Tryz.ntmps155
    go_wp2_with ((go_at_call 26; refine (HC.out _).mono ?_; rintro e w2 ⟨rfl, rfl⟩))
    go_ret
    exact ⟨rfl, rfl⟩
  case inr.inr.inl =>
    by_cases h96 : op = 99
    · subst h96
      simp only [Int.reduceEq, reduceIte, or_false, or_true, or_self, false_or, true_or] at hr
      subst hr
      clear hcl hop
      go_enter Tryz.func155, Tryz.ntmps155
      go_wp2_with ((go_at_call 26; refine (HC.out _).mono ?_; rintro e w2 ⟨rfl, rfl⟩))
      go_ret
      exact ⟨rfl, rfl⟩
    by_cases h104 : op = 107
    · subst h104
      simp only [Int.reduceEq, reduceIte, or_false, or_true, or_self, false_or, true_or] at hr
      subst hr
      clear hcl hop
      go_enter Tryz.func155, Tryz.ntmps155
      go_wp2_with ((go_at_call 26; refine (HC.out _).mono ?_; rintro e w2 ⟨rfl, rfl⟩))
      go_ret
      exact ⟨rfl, rfl⟩
    by_cases h112 : op = 115
    · subst h112
      simp only [Int.reduceEq, reduceIte, or_false, or_true, or_self, false_or, true_or] at hr
      subst hr
      clear hcl hop
      go_enter Tryz.func155, Tryz.ntmps155
      go_wp2_with ((go_at_call 26; refine (HC.out _).mono ?_; rintro e w2 ⟨rfl, rfl⟩))
      go_ret
      exact ⟨rfl, rfl⟩
    by_cases h120 : op = 123
    · subst h120
      simp only [Int.reduceEq, reduceIte, or_false, or_true, or_self, false_or, true_or] at hr
      subst hr
      clear hcl hop
      go_enter Tryz.func155, Tryz.ntmps155
      go_wp2_with ((go_at_call 26; refine (HC.out _).mono ?_; rintro e w2 ⟨rfl, rfl⟩))
      go_ret
      exact ⟨rfl, rfl⟩
    rw [if_neg (by omega), if_neg (by omega), if_neg (by omega), if_neg (by omega)] at hr
    subst hr
    have n96 : (op - 3 == 96) = false := by simp; omega
    have m96 : (op == 99) = false := by simp; omega
    have n104 : (op - 3 == 104) = false := by simp; omega
    have m104 : (op == 107) = false := by simp; omega
    have n112 : (op - 3 == 112) = false := by simp; omega
    have m112 : (op == 115) = false := by simp; omega
    have n120 : (op - 3 == 120) = false := by simp; omega
    have m120 : (op == 123) = false := by simp; omega
    have hge : 3 ≤ op := by omega
    clear h96 h104 h112 h120 hcl
    go_enter Tryz.func155, Tryz.ntmps155
    go_wp2_with ((go_at_call 26; refine (HC.out _).mono ?_; rintro e w2 ⟨rfl, rfl⟩))
    go_ret
    exact ⟨rfl, rfl⟩

theorem memB_size {x : In} (hx : InOk x) : (clsI x = 1 ∨ clsI x = 3 → memB x = (decide (0 < sizeC x) && (x.imm == 0))) ∧ (clsI x = 2 → memB x = (decide (0 < sizeC x) && (x.src == 0))) := by
  have hop := hx.op
  unfold clsI memB sizeC
  refine ⟨fun h => ?_, fun h => ?_⟩
  · by_cases h1 : x.op = 97 ∨ x.op = 99
    · rw [if_pos (by omega), if_pos (by omega)]; rfl
    by_cases h2 : x.op = 105 ∨ x.op = 107
    · rw [if_pos (by omega), if_neg (by omega), if_pos (by omega)]; rfl
    by_cases h3 : x.op = 113 ∨ x.op = 115
    · rw [if_pos (by omega), if_neg (by omega), if_neg (by omega), if_pos (by omega)]; rfl
    by_cases h4 : x.op = 121 ∨ x.op = 123
    · rw [if_pos (by omega), if_neg (by omega), if_neg (by omega), if_neg (by omega), if_pos (by omega)]; rfl
    · rw [if_neg (by omega), if_neg (by omega), if_neg (by omega), if_neg (by omega), if_neg (by omega), if_neg (by omega)]; rfl
  · by_cases h1 : x.op = 98
    · rw [if_neg (by omega), if_pos (by omega), if_pos (by omega)]; rfl
    by_cases h2 : x.op = 106
    · rw [if_neg (by omega), if_pos (by omega), if_neg (by omega), if_pos (by omega)]; rfl
    by_cases h3 : x.op = 114
    · rw [if_neg (by omega), if_pos (by omega), if_neg (by omega), if_neg (by omega), if_pos (by omega)]; rfl
    by_cases h4 : x.op = 122
    · rw [if_neg (by omega), if_pos (by omega), if_neg (by omega), if_neg (by omega), if_neg (by omega), if_pos (by omega)]; rfl
    · rw [if_neg (by omega), if_neg (by omega), if_neg (by omega), if_neg (by omega), if_neg (by omega), if_neg (by omega)]; rfl

end Go.Proofs.YtdchmelgaljpfaaGreat
