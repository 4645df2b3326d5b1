import Derived.Test.YtdchmelgaljpfaaGreatJn
set_option linter.unusedSimpArgs false
set_option linter.unusedVariables false
namespace Go.Proofs.YtdchmelgaljpfaaGreat
open Go.RowKit

/-! ### the document's kinds of slots -/
def isR (x : In) (k : Int) : Bool := (clsI x == 5) && (codeI x == k)
set_option maxHeartbeats 2000000 in
theorem ris_any (x : In) (k : Int) (w : World) (hx : InOk x) : Calls Tryz.prog 57 #[.agg (inVals x), .int .i64 k] w fun e w' => e = .returned (.bool (isR x k)) ∧ Kept (fun _ => False) w w' := by
  have HC := Lib.hid (fun W => rclass_any x W hx)
  have HK := Lib.hid (fun W => rcode_any x W hx)
  obtain ⟨r, hr⟩ : ∃ r, isR x k = r := ⟨_, rfl⟩
  rw [hr]
  unfold isR at hr
  generalize clsI x = c at *
  generalize codeI x = kk at *
  cases h5 : (c == 5)
  all_goals
    simp only [h5, Bool.true_and, Bool.false_and] at hr
    subst hr
    go_enter Tryz.func57, Tryz.ntmps57
    go_wp2_with (first
      | (go_at_call 26; refine (HC.out _).mono ?_; rintro e w2 ⟨rfl, rfl⟩)
      | (go_at_call 27; refine (HK.out _).mono ?_; rintro e w2 ⟨rfl, rfl⟩))
    go_ret
    exact ⟨rfl, by repeat (first | exact Kept.refl _ _ | refine Kept.alloc ?_ _)⟩
def cmpR (x : In) : Bool := (((clsI x == 5 || clsI x == 6) && (codeI x != 0)) && (codeI x != 8)) && (codeI x != 9)
set_option maxHeartbeats 4000000 in
theorem rcompares_any (x : In) (w : World) (hx : InOk x) : Calls Tryz.prog 58 #[.agg (inVals x)] w fun e w' => e = .returned (.bool (cmpR x)) ∧ Kept (fun _ => False) w w' := by
  have HC := Lib.hid (fun W => rclass_any x W hx)
  have HK := Lib.hid (fun W => rcode_any x W hx)
  obtain ⟨r, hr⟩ : ∃ r, cmpR x = r := ⟨_, rfl⟩
  rw [hr]
  unfold cmpR at hr
  generalize clsI x = c at *
  generalize codeI x = k at *
  cases h5 : (c == 5) <;> cases h6 : (c == 6) <;> cases h0 : (k != 0) <;> cases h8 : (k != 8)
  all_goals
    simp only [h5, h6, h0, h8, Bool.true_and, Bool.false_and, Bool.true_or, Bool.false_or, Bool.and_true, Bool.and_false] at hr
    subst hr
    go_enter Tryz.func58, Tryz.ntmps58
    go_wp2_with (first
      | (go_at_call 26; refine (HC.out _).mono ?_; rintro e w2 ⟨rfl, rfl⟩)
      | (go_at_call 27; refine (HK.out _).mono ?_; rintro e w2 ⟨rfl, rfl⟩))
    go_ret
    exact ⟨rfl, by repeat (first | exact Kept.refl _ _ | refine Kept.alloc ?_ _)⟩
set_option maxHeartbeats 4000000 in
theorem rwrites_any (x : In) (w : World) (hx : InOk x) : Calls Tryz.prog 117 #[.agg (inVals x)] w fun e w' => e = .returned (.bool (writesB x)) ∧ Kept (fun _ => False) w w' := by
  have HC := Lib.hid (fun W => rclass_any x W hx)
  obtain ⟨r, hr⟩ : ∃ r, writesB x = r := ⟨_, rfl⟩
  rw [hr]
  unfold writesB at hr
  generalize clsI x = c at *
  cases h0 : (c == 0) <;> cases h1 : (c == 1) <;> cases h4 : (c == 4)
  all_goals
    simp only [h0, h1, h4, Bool.true_and, Bool.false_and, Bool.true_or, Bool.false_or, Bool.or_true] at hr
    subst hr
    go_enter Tryz.func117, Tryz.ntmps117
    go_wp2_with (go_at_call 26; refine (HC.out _).mono ?_; rintro e w2 ⟨rfl, rfl⟩)
    go_ret
    exact ⟨rfl, by repeat (first | exact Kept.refl _ _ | refine Kept.alloc ?_ _)⟩
def toR (n : Nat) (i b : Int) : Int := if i + 1 + b < 0 then -1 else if (n : Int) ≤ i + 1 + b then -1 else i + 1 + b
set_option maxHeartbeats 2000000 in
theorem rto_any (a : Option Addr) (c n : Nat) (i : Nat) (b : Int) (w : World) (hi : i ≤ 1000000) (hb : -2147483648 ≤ b ∧ b ≤ 2147483647) : Calls Tryz.prog 59 #[.slice a n c, .int .i64 i, .int .i64 b] w fun e w' => e = .returned (.int .i64 (toR n i b)) ∧ w = w' := by
  unfold toR
  by_cases h1 : (i : Int) + 1 + b < 0
  · rw [if_pos h1]
    have h1d : decide ((i : Int) + 1 + b < 0) = true := decide_eq_true h1
    clear h1
    go_enter Tryz.func59, Tryz.ntmps59
    go_wp2_with fail
    go_ret
    exact ⟨rfl, rfl⟩
  rw [if_neg h1]
  have h1d : decide ((i : Int) + 1 + b < 0) = false := decide_eq_false h1
  by_cases h2 : (n : Int) ≤ (i : Int) + 1 + b
  · rw [if_pos h2]
    have h2d : decide ((n : Int) ≤ (i : Int) + 1 + b) = true := decide_eq_true h2
    go_enter Tryz.func59, Tryz.ntmps59
    go_wp2_with fail
    go_ret
    exact ⟨rfl, rfl⟩
  · rw [if_neg h2]
    have h2d : decide ((n : Int) ≤ (i : Int) + 1 + b) = false := decide_eq_false h2
    go_enter Tryz.func59, Tryz.ntmps59
    go_wp2_with fail
    go_ret
    exact ⟨rfl, rfl⟩

end Go.Proofs.YtdchmelgaljpfaaGreat
