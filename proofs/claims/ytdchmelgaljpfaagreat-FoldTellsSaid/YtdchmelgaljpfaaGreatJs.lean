import Derived.Test.YtdchmelgaljpfaaGreatJq
set_option linter.unusedSimpArgs false
set_option linter.unusedVariables false
namespace Go.Proofs.YtdchmelgaljpfaaGreat
open Go.RowKit

/-! ### the subprogram of a slot -/
def inP (p : Pt2) (t : Int) : Bool := decide (p.1 ≤ t) && decide (t < p.2)
def ofS (P : List Pt2) (t : Int) : Nat → Nat → Int
  | _, 0 => -1
  | i, n + 1 => if (P[i]?.map (fun p => inP p t)).getD false = true then (i : Int) else ofS P t (i + 1) n
def ofC (P : List Pt2) (t : Int) : Int := ofS P t 0 P.length
set_option maxHeartbeats 4000000 in
set_option maxRecDepth 100000 in
theorem of_any (P : List Pt2) (pv : Value) (t : Int) (w : World) (hP : Pts w pv P) (hPl : P.length ≤ 2000000) :
    Calls Tryz.prog 60 #[pv, .int .i64 t] w fun e w' => e = .returned (.int .i64 (ofC P t)) ∧ w = w' := by
  obtain ⟨r, hr⟩ : ∃ r, ofC P t = r := ⟨_, rfl⟩
  rw [hr]
  unfold ofC at hr
  have HR := Lib.hid hr
  clear hr
  obtain ⟨pA, pc, hpv⟩ := Sl.any hP
  rw [List.length_map] at hpv
  subst hpv
  go_enter Tryz.func60, Tryz.ntmps60
  go_wp2_with fail
  go_loopw [5] (fun iv wr => ∃ i n : Nat, iv = .int .i64 i ∧ i + n = P.length ∧ ofS P t i n = r ∧ w = wr) (fun iv _ => P.length - (intOf iv).toNat)
  case atStart => exact ⟨0, P.length, rfl, by omega, HR.out, rfl⟩
  case round =>
    obtain ⟨i, n, rfl, hin, hsc, rfl⟩ := hrel
    cases n with
    | zero =>
      obtain rfl : i = P.length := by omega
      simp only [ofS] at hsc
      subst hsc
      clear HR
      go_wp2_with fail
      go_ret
      exact ⟨rfl, rfl⟩
    | succ n =>
      have hlt : i < P.length := by omega
      obtain ⟨p, hp⟩ : ∃ p, P[i]? = some p := ⟨_, List.getElem?_eq_getElem hlt⟩
      obtain ⟨f, tt⟩ := p
      obtain ⟨pg, pc', hpv, hpg, p0, p1⟩ := Pts.at_ hP hp
      obtain ⟨rfl, -, rfl⟩ := Value.slice.inj hpv
      unfold ofS at hsc
      rw [hp] at hsc
      simp only [Option.map_some, Option.getD_some] at hsc
      unfold inP at hsc
      clear hp hpv HR
      cases q1 : decide (f ≤ t) <;> cases q2 : decide (t < tt)
      all_goals
        simp only [q1, q2, Bool.and_self, Bool.and_true, Bool.and_false, Bool.true_and, Bool.false_and, if_true, if_false, Bool.false_eq_true] at hsc
        first
          | (subst hsc
             go_wp2_with fail
             go_ret
             exact ⟨rfl, rfl⟩)
          | (have HSC := Lib.hid hsc
             clear hsc
             go_wp2_with fail
             go_roundw
             case rel => exact ⟨i + 1, n, by go_num, by omega, HSC.out, trivial⟩
             case measure => simp [intOf]; omega)

end Go.Proofs.YtdchmelgaljpfaaGreat
set_option linter.unusedSimpArgs false
set_option linter.unusedVariables false
namespace Go.Proofs.YtdchmelgaljpfaaGreat
open Go.RowKit

/-! ### of what is known both say the same -/
theorem isR8 {x : In} (h : InOk x) (hk : knownB x = true) : isR x 8 = (x.op == 133) := by
  have hop := h.op
  by_cases h1 : x.op = 133
  · unfold isR clsI codeI
    rw [h1]
    rfl
  by_cases h2 : x.op = 141
  · exfalso
    unfold knownB jumpB wholeJ clsI codeI xB at hk
    rw [h2] at hk
    simp at hk
  · have e1 : isR x 8 = false := by
      unfold isR clsI codeI
      rw [Bool.eq_false_iff]
      simp
      omega
    rw [e1]
    symm
    simpa using h1
theorem isR9 {x : In} (h : InOk x) (hk : knownB x = true) : isR x 9 = (x.op == 149) := by
  have hop := h.op
  by_cases h1 : x.op = 149
  · unfold isR clsI codeI
    rw [h1]
    rfl
  by_cases h2 : x.op = 157
  · exfalso
    unfold knownB jumpB wholeJ clsI codeI xB at hk
    rw [h2] at hk
    simp at hk
  · have e1 : isR x 9 = false := by
      unfold isR clsI codeI
      rw [Bool.eq_false_iff]
      simp
      omega
    rw [e1]
    symm
    simpa using h1
theorem isR0 {x : In} (h : InOk x) (hk : knownB x = true) : isR x 0 = (x.op == 5) := by
  have hop := h.op
  by_cases h1 : x.op = 5
  · unfold isR clsI codeI
    rw [h1]
    rfl
  by_cases h2 : x.op = 13
  · exfalso
    unfold knownB jumpB wholeJ clsI codeI xB at hk
    rw [h2] at hk
    simp at hk
  · have e1 : isR x 0 = false := by
      unfold isR clsI codeI
      rw [Bool.eq_false_iff]
      simp
      omega
    rw [e1]
    symm
    simpa using h1
theorem names_eq {x : In} (h : InOk x) (hk : knownB x = true) : namesR x = isCallB x := by
  unfold namesR isCallB
  rw [isR8 h hk]
theorem helper_eq {x : In} (h : InOk x) (hk : knownB x = true) : helperR x = ((x.op == 133) && (x.src == 0)) := by
  unfold helperR
  rw [isR8 h hk]
/-- a jump: a Ja or a comparison -/
theorem jump_eq {x : In} (h : InOk x) (hk : knownB x = true) : isJumpB x = (isR x 0 || cmpR x) := by
  by_cases h6 : clsI x = 6 ∧ codeI x = 0
  · exfalso
    unfold knownB jumpB wholeJ at hk
    rw [h6.1, h6.2] at hk
    simp at hk
  · unfold isJumpB isR cmpR
    cases h5 : (clsI x == 5) <;> cases h6' : (clsI x == 6) <;> cases h0 : (codeI x == 0) <;> cases h8 : (codeI x == 8) <;> cases h9 : (codeI x == 9) <;> simp only [bne, h5, h6', h0, h8, h9] <;> first | rfl | (exfalso; simp only [beq_iff_eq, beq_eq_false_iff_ne, ne_eq] at h5 h6' h0 h8 h9; omega)

end Go.Proofs.YtdchmelgaljpfaaGreat
