import Derived.Test.YtdchmelgaljpfaaGreatJd
set_option linter.unusedSimpArgs false
set_option linter.unusedVariables false
namespace Go.Proofs.YtdchmelgaljpfaaGreat
open Go.RowKit

/-! ### whole -/
def zeroB (y : In) (z : Int) : Bool := (((((y.op == 0) && (y.dst == 0)) && (y.src == 0)) && (y.off == 0)) && (z == 0))
def wholeB (l : List In) (i : Nat) : Bool := match l[i]?, l[i + 1]? with
  | some x, some y => zeroB y (if x.src = 0 then 0 else y.imm)
  | _, _ => false
set_option maxHeartbeats 4000000 in
set_option maxRecDepth 100000 in
theorem whole_any (l : List In) (a : Option Addr) (c i : Nat) (x : In) (w : World) (h : Ins w (.slice a l.length c) l) (hok : InsOk l) (hx : l[i]? = some x) :
    Calls Tryz.prog 146 #[.slice a l.length c, .int .i64 i] w fun e w' => e = .returned (.bool (wholeB l i)) ∧ Kept (fun _ => False) w w' := by
  have hlen := hok.len
  have hi := (List.getElem?_eq_some_iff.1 hx).1
  obtain ⟨r, hr⟩ : ∃ r, wholeB l i = r := ⟨_, rfl⟩
  rw [hr]
  unfold wholeB at hr
  rw [hx] at hr
  by_cases hlt : i + 1 < l.length
  case neg =>
    rw [List.getElem?_eq_none (by omega)] at hr
    simp only at hr
    subst hr
    clear hx
    go_enter Tryz.func146, Tryz.ntmps146
    go_wp2_with fail
    go_ret
    exact ⟨rfl, Kept.refl _ w⟩
  case pos =>
    obtain ⟨y, hy⟩ : ∃ y, l[i + 1]? = some y := ⟨_, List.getElem?_eq_getElem hlt⟩
    rw [hy] at hr
    simp only at hr
    obtain ⟨g, off, rfl, hg, c0, c1, c2, c3, c4⟩ := h.at_ hx
    obtain ⟨g', off', hgg, hg', d0, d1, d2, d3, d4⟩ := h.at_ hy
    cases hgg
    clear hx hy h hok
    by_cases hs : x.src = 0
    · rw [if_pos hs] at hr
      have hs2 : (x.src == 0) = true := by simpa using hs
      clear hs
      unfold zeroB at hr
      have hch : (y.op == 0) = false ∨ (y.op == 0) = true ∧ (y.dst == 0) = false ∨ (y.op == 0) = true ∧ (y.dst == 0) = true ∧ (y.src == 0) = false ∨ (y.op == 0) = true ∧ (y.dst == 0) = true ∧ (y.src == 0) = true ∧ (y.off == 0) = false ∨
          (y.op == 0) = true ∧ (y.dst == 0) = true ∧ (y.src == 0) = true ∧ (y.off == 0) = true := by
        cases (y.op == 0) <;> cases (y.dst == 0) <;> cases (y.src == 0) <;> cases (y.off == 0) <;> simp
      rcases hch with z1 | ⟨z1, z2⟩ | ⟨z1, z2, z3⟩ | ⟨z1, z2, z3, z4⟩ | ⟨z1, z2, z3, z4⟩
      all_goals
        try simp only [z1] at hr
        try simp only [z2] at hr
        try simp only [z3] at hr
        try simp only [z4] at hr
        simp only [BEq.rfl, Bool.true_and, Bool.false_and, Bool.and_true] at hr
        subst hr
        go_enter Tryz.func146, Tryz.ntmps146
        go_wp2_with fail
        go_ret
        exact ⟨rfl, (Kept.refl _ w).alloc _⟩
    · rw [if_neg hs] at hr
      have hs2 : (x.src == 0) = false := by simpa using hs
      clear hs
      unfold zeroB at hr
      have hch : (y.op == 0) = false ∨ (y.op == 0) = true ∧ (y.dst == 0) = false ∨ (y.op == 0) = true ∧ (y.dst == 0) = true ∧ (y.src == 0) = false ∨ (y.op == 0) = true ∧ (y.dst == 0) = true ∧ (y.src == 0) = true ∧ (y.off == 0) = false ∨
          (y.op == 0) = true ∧ (y.dst == 0) = true ∧ (y.src == 0) = true ∧ (y.off == 0) = true ∧ (y.imm == 0) = false ∨ (y.op == 0) = true ∧ (y.dst == 0) = true ∧ (y.src == 0) = true ∧ (y.off == 0) = true ∧ (y.imm == 0) = true := by
        cases (y.op == 0) <;> cases (y.dst == 0) <;> cases (y.src == 0) <;> cases (y.off == 0) <;> cases (y.imm == 0) <;> simp
      rcases hch with z1 | ⟨z1, z2⟩ | ⟨z1, z2, z3⟩ | ⟨z1, z2, z3, z4⟩ | ⟨z1, z2, z3, z4, z5⟩ | ⟨z1, z2, z3, z4, z5⟩
      all_goals
        try simp only [z1] at hr
        try simp only [z2] at hr
        try simp only [z3] at hr
        try simp only [z4] at hr
        try simp only [z5] at hr
        simp only [Bool.true_and, Bool.false_and, Bool.and_true, Bool.and_false] at hr
        subst hr
        go_enter Tryz.func146, Tryz.ntmps146
        go_wp2_with fail
        go_ret
        exact ⟨rfl, (Kept.refl _ w).alloc _⟩

end Go.Proofs.YtdchmelgaljpfaaGreat
