import Derived.Test.YtlkgmcacbfoijaaGreatZak
set_option linter.unusedSimpArgs false
set_option linter.unusedVariables false
namespace Go.Proofs.YtlkgmcacbfoijaaGreat
open Go.RowKit

def namesR (x : In) : Bool := (isR x 8 && (x.src == 1)) || ((x.op == 24) && (x.src == 4))
set_option maxHeartbeats 4000000 in
theorem rnames_any (x : In) (w : World) (hx : InOk x) : Calls Tryz.prog 56 #[.agg (inVals x)] w fun e w' => e = .returned (.bool (namesR x)) ∧ Kept (fun _ => False) w w' := by
  have HI := Lib.hid (fun W => ris_any x 8 W hx)
  have HW := Lib.hid (fun W => rwide_any x W)
  obtain ⟨r, hr⟩ : ∃ r, namesR x = r := ⟨_, rfl⟩
  rw [hr]
  unfold namesR at hr
  generalize isR x 8 = b at *
  have hBn := Blk.new w 47 (inVals x)
  cases b <;> cases h1 : (x.src == 1) <;> cases h24 : (x.op == 24)
  all_goals
    simp only [h1, h24, Bool.true_and, Bool.false_and, Bool.true_or, Bool.false_or, Bool.or_true, Bool.and_true, Bool.and_false] at hr
    rw [h24] at HW
    subst hr
    go_enter Tryz.func56, Tryz.ntmps56
    go_wp2_with fail
    refine (HI.out _).mono ?_
    rintro e w1 ⟨rfl, hk1⟩
    have hb1 := hk1.blk (fun h => h) hBn
    have hK1 : Kept (fun _ => False) w w1 := ((Kept.refl _ w).alloc _).trans hk1 (fun _ _ h => h)
    have hl1 := hb1.lt
    have x0 := hb1.cell 0
    have x1 := hb1.cell 1
    have x2 := hb1.cell 2
    have x3 := hb1.cell 3
    have x4 := hb1.cell 4
    clear hk1
    go_wp2_with (go_at_call 61; refine (HW.out _).mono ?_; rintro e w2 ⟨rfl, rfl⟩)
    go_ret
    exact ⟨rfl, by first | exact hK1 | exact hK1.alloc _⟩
def helperR (x : In) : Bool := isR x 8 && (x.src == 0)
set_option maxHeartbeats 4000000 in
theorem rhelper_any (x : In) (w : World) (hx : InOk x) : Calls Tryz.prog 80 #[.agg (inVals x)] w fun e w' => e = .returned (.bool (helperR x)) ∧ Kept (fun _ => False) w w' := by
  have HI := Lib.hid (fun W => ris_any x 8 W hx)
  obtain ⟨r, hr⟩ : ∃ r, helperR x = r := ⟨_, rfl⟩
  rw [hr]
  unfold helperR at hr
  generalize isR x 8 = b at *
  have hBn := Blk.new w 47 (inVals x)
  cases b
  all_goals
    simp only [Bool.true_and, Bool.false_and] at hr
    subst hr
    go_enter Tryz.func80, Tryz.ntmps80
    go_wp2_with fail
    refine (HI.out _).mono ?_
    rintro e w1 ⟨rfl, hk1⟩
    have hb1 := hk1.blk (fun h => h) hBn
    have hK1 : Kept (fun _ => False) w w1 := ((Kept.refl _ w).alloc _).trans hk1 (fun _ _ h => h)
    have x0 := hb1.cell 0
    have x2 := hb1.cell 2
    clear hk1
    go_wp2_with fail
    go_ret
    exact ⟨rfl, hK1⟩

/-! ### Seconds -/
set_option maxHeartbeats 4000000 in
set_option maxRecDepth 100000 in
theorem seconds_any (l : List In) (a : Option Addr) (c : Nat) (w : World) (h : Ins w (.slice a l.length c) l) (hok : InsOk l) :
    Calls Tryz.prog 52 #[.slice a l.length c] w fun e w' => ∃ ov, e = .returned ov ∧ Bls w' ov (secL l) ∧ Kept (fun _ => False) w w' ∧ ∀ g, ov.ownBlock = some g → w.heap.size ≤ g := by
  have hlen := hok.len
  have HWI := Lib.hid (fun x W => rwide_any x W)
  obtain ⟨i0, hI0, hI1, hI2, hI3⟩ := info_parts infoB
  go_enter Tryz.func52, Tryz.ntmps52
  go_wp2_with (refine wpList_makeSl (w := w) rfl (.tmp 6) (.tmp 6) 72 rfl (.bool false) rfl Tryz.underlying72 hI0 hI1 hI2 hI3 (by omega) l.length rfl rfl (by omega) ?_; intro w1 hB1 hk1)
  have hB1' : Bls w1 (.slice (some ⟨w.heap.size, 0, none⟩) l.length l.length) (mixL (secL l) l.length 1) := by
    rw [mixL_one]
    unfold Bls
    rw [List.map_replicate]
    exact hB1
  clear hB1
  go_loopw [4] (fun iv wr => ∃ j : Nat, iv = .int .i64 ((j : Int) + 1) ∧ (j + 1 ≤ l.length ∨ j = 0) ∧ Bls wr (.slice (some ⟨w.heap.size, 0, none⟩) l.length l.length) (mixL (secL l) l.length (j + 1)) ∧ Kept (fun _ => False) w wr) (fun iv _ => l.length - (intOf iv).toNat)
  case atStart => exact ⟨0, rfl, .inr rfl, hB1', hk1⟩
  case round =>
    clear hB1' hk1
    obtain ⟨j, rfl, hj, hB, hK⟩ := hrel
    by_cases hlt : j + 1 < l.length
    case neg =>
      rw [mixL_end (sec_len l) (by omega)] at hB
      have hnd : decide ((j : Int) + 1 < l.length) = false := decide_eq_false (by omega)
      clear hj hlt
      go_wp2_with fail
      go_ret
      exact ⟨_, rfl, hB, hK, fun g hg => Nat.le_of_eq (Option.some.inj (show some w.heap.size = some g from hg))⟩
    case pos =>
      obtain ⟨x, hx⟩ : ∃ x, l[j]? = some x := ⟨_, List.getElem?_eq_getElem (by omega)⟩
      obtain ⟨b, hb⟩ : ∃ b, (secL l)[j]? = some b := ⟨_, List.getElem?_eq_getElem (by rw [sec_len]; omega)⟩
      have hs := sec_succ hx hb hlt
      obtain ⟨g, off, rfl, hg, c0, c1, c2, c3, c4⟩ := (h.kept hK).at_ hx
      have hal : Kept (fun _ => False) wr (wr.alloc (.cells (inVals x) 47)) := (Kept.refl _ wr).alloc _
      have hBa := Sl.kept hal hB (fun _ _ h => h)
      have hml := mixL_len (i := j + 1) (sec_len l) (by omega)
      have d0 := Bls.cell hB (i := j) (x := b) (by rw [mixL_lt (sec_len l) (by omega) (by omega)]; exact hb)
      have d1 := Bls.cell hB (i := j + 1) (x := false) (mixL_at (sec_len l) hlt)
      have f1 := Sl.frozen hB (j + 1)
      have hgl := Sl.lt hB w.heap.size rfl
      obtain ⟨v, hv⟩ : ∃ v, (x.op == 24 && !b) = v := ⟨_, rfl⟩
      rw [hv] at hs
      have hB0 := Bls.set hB (i := j + 1) (by rw [hml]; omega) v
      rw [mixL_set (sec_len l) hlt hs] at hB0
      have hB2 := Sl.alloc hB0 (.cells (inVals x) 47)
      have hK2 : Kept (fun _ => False) w ((wr.setCell ⟨w.heap.size, j + 1, none⟩ (.bool v)).alloc (.cells (inVals x) 47)) := (hK.setCell (fun h => by simp at h) _).alloc _
      have HW := Lib.hid (fun W => HWI.out x W)
      clear hs hx hb hml hB hBa hal hB0
      cases h24 : (x.op == 24) <;> cases b
      all_goals
        simp only [h24, Bool.not_false, Bool.not_true, Bool.true_and, Bool.false_and] at hv
        rw [h24] at HW
        subst hv
        go_wp2_with (go_at_call 61; refine (HW.out _).mono ?_; rintro e w2 ⟨rfl, rfl⟩)
        exact ⟨⟨j + 1, by go_num, .inl (by omega), hB2, hK2⟩, by simp [intOf]; omega⟩

end Go.Proofs.YtlkgmcacbfoijaaGreat

set_option linter.unusedSimpArgs false
set_option linter.unusedVariables false
namespace Go.Proofs.YtlkgmcacbfoijaaGreat
open Go.RowKit

/-! ### the subprogram of a slot -/
def inP (p : Pt2) (t : Int) : Bool := decide (p.1 ≤ t) && decide (t < p.2)
def ofS (P : List Pt2) (t : Int) : Nat → Nat → Int
  | _, 0 => -1
  | i, n + 1 => if (P[i]?.map (fun p => inP p t)).getD false = true then (i : Int) else ofS P t (i + 1) n
def ofC (P : List Pt2) (t : Int) : Int := ofS P t 0 P.length
set_option maxHeartbeats 4000000 in
set_option maxRecDepth 100000 in
theorem of_any (P : List Pt2) (pv : Value) (t : Int) (w : World) (hP : Pts w pv P) (hPl : P.length ≤ 2000000) :
    Calls Tryz.prog 77 #[pv, .int .i64 t] w fun e w' => e = .returned (.int .i64 (ofC P t)) ∧ w = w' := by
  obtain ⟨r, hr⟩ : ∃ r, ofC P t = r := ⟨_, rfl⟩
  rw [hr]
  unfold ofC at hr
  have HR := Lib.hid hr
  clear hr
  obtain ⟨pA, pc, hpv⟩ := Sl.any hP
  rw [List.length_map] at hpv
  subst hpv
  go_enter Tryz.func77, Tryz.ntmps77
  go_wp2_with fail
  go_loopw [5] (fun iv wr => ∃ i n : Nat, iv = .int .i64 i ∧ i + n = P.length ∧ ofS P t i n = r ∧ w = wr) (fun iv _ => P.length - (intOf iv).toNat)
  case atStart => exact ⟨0, P.length, rfl, by omega, HR.out, rfl⟩
  case round =>
    obtain ⟨i, n, rfl, hin, hsc, rfl⟩ := hrel
    cases n with
    | zero =>
      obtain rfl : i = P.length := by omega
      simp only [ofS] at hsc
      subst hsc
      clear HR
      go_wp2_with fail
      go_ret
      exact ⟨rfl, rfl⟩
    | succ n =>
      have hlt : i < P.length := by omega
      obtain ⟨p, hp⟩ : ∃ p, P[i]? = some p := ⟨_, List.getElem?_eq_getElem hlt⟩
      obtain ⟨f, tt⟩ := p
      obtain ⟨pg, pc', hpv, hpg, p0, p1⟩ := Pts.at_ hP hp
      obtain ⟨rfl, -, rfl⟩ := Value.slice.inj hpv
      unfold ofS at hsc
      rw [hp] at hsc
      simp only [Option.map_some, Option.getD_some] at hsc
      unfold inP at hsc
      clear hp hpv HR
      cases q1 : decide (f ≤ t) <;> cases q2 : decide (t < tt)
      all_goals
        simp only [q1, q2, Bool.and_self, Bool.and_true, Bool.and_false, Bool.true_and, Bool.false_and, if_true, if_false, Bool.false_eq_true] at hsc
        first
          | (subst hsc
             go_wp2_with fail
             go_ret
             exact ⟨rfl, rfl⟩)
          | (have HSC := Lib.hid hsc
             clear hsc
             go_wp2_with fail
             go_roundw
             case rel => exact ⟨i + 1, n, by go_num, by omega, HSC.out, trivial⟩
             case measure => simp [intOf]; omega)

end Go.Proofs.YtlkgmcacbfoijaaGreat
set_option linter.unusedSimpArgs false
set_option linter.unusedVariables false
namespace Go.Proofs.YtlkgmcacbfoijaaGreat
open Go.RowKit

/-! ### of what is known both say the same -/
theorem isR8 {x : In} (h : InOk x) (hk : knownB x = true) : isR x 8 = (x.op == 133) := by
  have hop := h.op
  by_cases h1 : x.op = 133
  · unfold isR clsI codeI
    rw [h1]
    rfl
  by_cases h2 : x.op = 141
  · exfalso
    unfold knownB jumpB wholeJ clsI codeI xB at hk
    rw [h2] at hk
    simp at hk
  · have e1 : isR x 8 = false := by
      unfold isR clsI codeI
      rw [Bool.eq_false_iff]
      simp
      omega
    rw [e1]
    symm
    simpa using h1
theorem isR9 {x : In} (h : InOk x) (hk : knownB x = true) : isR x 9 = (x.op == 149) := by
  have hop := h.op
  by_cases h1 : x.op = 149
  · unfold isR clsI codeI
    rw [h1]
    rfl
  by_cases h2 : x.op = 157
  · exfalso
    unfold knownB jumpB wholeJ clsI codeI xB at hk
    rw [h2] at hk
    simp at hk
  · have e1 : isR x 9 = false := by
      unfold isR clsI codeI
      rw [Bool.eq_false_iff]
      simp
      omega
    rw [e1]
    symm
    simpa using h1
theorem isR0 {x : In} (h : InOk x) (hk : knownB x = true) : isR x 0 = (x.op == 5) := by
  have hop := h.op
  by_cases h1 : x.op = 5
  · unfold isR clsI codeI
    rw [h1]
    rfl
  by_cases h2 : x.op = 13
  · exfalso
    unfold knownB jumpB wholeJ clsI codeI xB at hk
    rw [h2] at hk
    simp at hk
  · have e1 : isR x 0 = false := by
      unfold isR clsI codeI
      rw [Bool.eq_false_iff]
      simp
      omega
    rw [e1]
    symm
    simpa using h1
theorem names_eq {x : In} (h : InOk x) (hk : knownB x = true) : namesR x = isCallB x := by
  unfold namesR isCallB
  rw [isR8 h hk]
theorem helper_eq {x : In} (h : InOk x) (hk : knownB x = true) : helperR x = ((x.op == 133) && (x.src == 0)) := by
  unfold helperR
  rw [isR8 h hk]
/-- a jump: a Ja or a comparison -/
theorem jump_eq {x : In} (h : InOk x) (hk : knownB x = true) : isJumpB x = (isR x 0 || cmpR x) := by
  by_cases h6 : clsI x = 6 ∧ codeI x = 0
  · exfalso
    unfold knownB jumpB wholeJ at hk
    rw [h6.1, h6.2] at hk
    simp at hk
  · unfold isJumpB isR cmpR
    cases h5 : (clsI x == 5) <;> cases h6' : (clsI x == 6) <;> cases h0 : (codeI x == 0) <;> cases h8 : (codeI x == 8) <;> cases h9 : (codeI x == 9) <;> simp only [bne, h5, h6', h0, h8, h9] <;> first | rfl | (exfalso; simp only [beq_iff_eq, beq_eq_false_iff_ne, ne_eq] at h5 h6' h0 h8 h9; omega)

end Go.Proofs.YtlkgmcacbfoijaaGreat

set_option linter.unusedSimpArgs false
set_option linter.unusedVariables false
namespace Go.Proofs.YtlkgmcacbfoijaaGreat
open Go.RowKit

/-! ### the document's Known -/
set_option maxHeartbeats 16000000 in
set_option maxRecDepth 100000 in
theorem rknown1 (x : In) (w : World) (hx : InOk x) (hcs : clsI x = 0 ∨ clsI x = 1 ∨ clsI x = 3 ∨ clsI x = 2) : Calls Tryz.prog 78 #[.agg (inVals x)] w fun e w' => e = .returned (.bool (knownB x)) ∧ Kept (fun _ => False) w w' := by
  have HC := Lib.hid (fun W => rclass_any x W hx)
  have HK := Lib.hid (fun W => rcode_any x W hx)
  have HX := Lib.hid (fun W => rx_any x W hx)
  have HS := Lib.hid (fun W => rsize_any x W hx)
  have HW := Lib.hid (fun W => rwide_any x W)
  obtain ⟨hm1, hm2⟩ := memB_size hx
  obtain ⟨r, hr⟩ : ∃ r, knownB x = r := ⟨_, rfl⟩
  rw [hr]
  unfold knownB arithB jumpB wholeJ operandB at hr
  clear hx
  generalize clsI x = c at *
  generalize codeI x = k at *
  generalize xB x = xb at *
  generalize sizeC x = sz at *
  rcases hcs with rfl | rfl | rfl | rfl
  case inl =>
    simp only [reduceIte, Int.reduceEq, or_false, or_true, or_self, true_or] at hr
    clear hm1 hm2
    cases ho : (x.op == 24) <;> cases hf : (x.off == 0) <;> cases hs : (x.src == 0) <;> cases h1 : (x.src == 1)
    all_goals
      try simp only [ho] at hr
      try simp only [hf] at hr
      try simp only [hs] at hr
      try simp only [h1] at hr
      try simp only [Bool.not_false, Bool.not_true, Bool.true_and, Bool.false_and, Bool.and_true, Bool.and_false, Bool.true_or, Bool.false_or, Bool.or_true, Bool.or_false, if_true, if_false, Bool.false_eq_true, reduceIte, Int.reduceBEq] at hr
      subst hr
      go_enter Tryz.func78, Tryz.ntmps78
      go_wp2_with (first | (go_at_call 81; refine (HC.out _).mono ?_; rintro e w2 ⟨rfl, rfl⟩) | (go_at_call 82; refine (HK.out _).mono ?_; rintro e w2 ⟨rfl, rfl⟩) | (go_at_call 109; refine (HX.out _).mono ?_; rintro e w2 ⟨rfl, rfl⟩) | (go_at_call 108; refine (HS.out _).mono ?_; rintro e w2 ⟨rfl, rfl⟩) | (go_at_call 61; refine (HW.out _).mono ?_; rintro e w2 ⟨rfl, rfl⟩))
      all_goals
        go_ret
        exact ⟨rfl, by repeat (first | exact Kept.refl _ _ | refine Kept.alloc ?_ _)⟩
  case inr.inl =>
    simp only [reduceIte, Int.reduceEq, or_false, or_true, or_self, true_or] at hr
    rw [hm1 (.inl rfl)] at hr
    clear hm1 hm2
    cases hq : decide (0 < sz) <;> cases ho : (x.off == 0)
    all_goals
      try simp only [hq] at hr
      try simp only [Bool.not_false, Bool.not_true, Bool.true_and, Bool.false_and, Bool.and_true, Bool.and_false, Bool.true_or, Bool.false_or, Bool.or_true, Bool.or_false, if_true, if_false, Bool.false_eq_true, reduceIte, Int.reduceBEq] at hr
      subst hr
      go_enter Tryz.func78, Tryz.ntmps78
      go_wp2_with (first | (go_at_call 81; refine (HC.out _).mono ?_; rintro e w2 ⟨rfl, rfl⟩) | (go_at_call 82; refine (HK.out _).mono ?_; rintro e w2 ⟨rfl, rfl⟩) | (go_at_call 109; refine (HX.out _).mono ?_; rintro e w2 ⟨rfl, rfl⟩) | (go_at_call 108; refine (HS.out _).mono ?_; rintro e w2 ⟨rfl, rfl⟩) | (go_at_call 61; refine (HW.out _).mono ?_; rintro e w2 ⟨rfl, rfl⟩))
      all_goals
        go_ret
        exact ⟨rfl, by repeat (first | exact Kept.refl _ _ | refine Kept.alloc ?_ _)⟩
  case inr.inr.inl =>
    simp only [reduceIte, Int.reduceEq, or_false, or_true, or_self, true_or] at hr
    rw [hm1 (.inr rfl)] at hr
    clear hm1 hm2
    cases hq : decide (0 < sz) <;> cases ho : (x.off == 0)
    all_goals
      try simp only [hq] at hr
      try simp only [Bool.not_false, Bool.not_true, Bool.true_and, Bool.false_and, Bool.and_true, Bool.and_false, Bool.true_or, Bool.false_or, Bool.or_true, Bool.or_false, if_true, if_false, Bool.false_eq_true, reduceIte, Int.reduceBEq] at hr
      subst hr
      go_enter Tryz.func78, Tryz.ntmps78
      go_wp2_with (first | (go_at_call 81; refine (HC.out _).mono ?_; rintro e w2 ⟨rfl, rfl⟩) | (go_at_call 82; refine (HK.out _).mono ?_; rintro e w2 ⟨rfl, rfl⟩) | (go_at_call 109; refine (HX.out _).mono ?_; rintro e w2 ⟨rfl, rfl⟩) | (go_at_call 108; refine (HS.out _).mono ?_; rintro e w2 ⟨rfl, rfl⟩) | (go_at_call 61; refine (HW.out _).mono ?_; rintro e w2 ⟨rfl, rfl⟩))
      all_goals
        go_ret
        exact ⟨rfl, by repeat (first | exact Kept.refl _ _ | refine Kept.alloc ?_ _)⟩
  case inr.inr.inr =>
    simp only [reduceIte, Int.reduceEq, or_false, or_true, or_self, true_or] at hr
    rw [hm2 rfl] at hr
    clear hm1 hm2
    cases hq : decide (0 < sz) <;> cases ho : (x.off == 0)
    all_goals
      try simp only [hq] at hr
      try simp only [Bool.not_false, Bool.not_true, Bool.true_and, Bool.false_and, Bool.and_true, Bool.and_false, Bool.true_or, Bool.false_or, Bool.or_true, Bool.or_false, if_true, if_false, Bool.false_eq_true, reduceIte, Int.reduceBEq] at hr
      subst hr
      go_enter Tryz.func78, Tryz.ntmps78
      go_wp2_with (first | (go_at_call 81; refine (HC.out _).mono ?_; rintro e w2 ⟨rfl, rfl⟩) | (go_at_call 82; refine (HK.out _).mono ?_; rintro e w2 ⟨rfl, rfl⟩) | (go_at_call 109; refine (HX.out _).mono ?_; rintro e w2 ⟨rfl, rfl⟩) | (go_at_call 108; refine (HS.out _).mono ?_; rintro e w2 ⟨rfl, rfl⟩) | (go_at_call 61; refine (HW.out _).mono ?_; rintro e w2 ⟨rfl, rfl⟩))
      all_goals
        go_ret
        exact ⟨rfl, by repeat (first | exact Kept.refl _ _ | refine Kept.alloc ?_ _)⟩

end Go.Proofs.YtlkgmcacbfoijaaGreat

set_option linter.unusedSimpArgs false
set_option linter.unusedVariables false
namespace Go.Proofs.YtlkgmcacbfoijaaGreat
open Go.RowKit

/-! ### the document's Known -/
set_option maxHeartbeats 16000000 in
set_option maxRecDepth 100000 in
theorem rknown2 (x : In) (w : World) (hx : InOk x) (hcs : (clsI x = 4 ∨ clsI x = 7) ∨ False) : Calls Tryz.prog 78 #[.agg (inVals x)] w fun e w' => e = .returned (.bool (knownB x)) ∧ Kept (fun _ => False) w w' := by
  have HC := Lib.hid (fun W => rclass_any x W hx)
  have HK := Lib.hid (fun W => rcode_any x W hx)
  have HX := Lib.hid (fun W => rx_any x W hx)
  have HS := Lib.hid (fun W => rsize_any x W hx)
  have HW := Lib.hid (fun W => rwide_any x W)
  obtain ⟨hm1, hm2⟩ := memB_size hx
  obtain ⟨r, hr⟩ : ∃ r, knownB x = r := ⟨_, rfl⟩
  rw [hr]
  unfold knownB arithB jumpB wholeJ operandB at hr
  clear hx
  generalize clsI x = c at *
  generalize codeI x = k at *
  generalize xB x = xb at *
  generalize sizeC x = sz at *
  rcases hcs with hc47 | hff
  case inr =>
    exact hff.elim
  case inl =>
    clear hm1 hm2
    rw [if_pos (by omega)] at hr
    by_cases ho : x.off = 0
    case neg =>
      rw [if_neg ho] at hr
      have ho2 : (x.off == 0) = false := by simpa using ho
      clear ho
      subst hr
      have hks : k = 8 ∨ k = 13 ∨ ((k == 8) = false ∧ (k == 13) = false ∧ decide (13 < k) = true) ∨ ((k == 8) = false ∧ (k == 13) = false ∧ decide (13 < k) = false) := by
        by_cases h8 : k = 8
        · exact .inl h8
        by_cases h13 : k = 13
        · exact .inr (.inl h13)
        by_cases hg : 13 < k
        · exact .inr (.inr (.inl ⟨by simpa using h8, by simpa using h13, decide_eq_true hg⟩))
        · exact .inr (.inr (.inr ⟨by simpa using h8, by simpa using h13, decide_eq_false hg⟩))
      rcases hc47 with rfl | rfl <;> rcases hks with rfl | rfl | ⟨k1, k2, k3⟩ | ⟨k1, k2, k3⟩ <;> cases xb
      all_goals
        go_enter Tryz.func78, Tryz.ntmps78
        go_wp2_with (first | (go_at_call 81; refine (HC.out _).mono ?_; rintro e w2 ⟨rfl, rfl⟩) | (go_at_call 82; refine (HK.out _).mono ?_; rintro e w2 ⟨rfl, rfl⟩) | (go_at_call 109; refine (HX.out _).mono ?_; rintro e w2 ⟨rfl, rfl⟩) | (go_at_call 108; refine (HS.out _).mono ?_; rintro e w2 ⟨rfl, rfl⟩) | (go_at_call 61; refine (HW.out _).mono ?_; rintro e w2 ⟨rfl, rfl⟩))
        all_goals
          go_ret
          exact ⟨rfl, by repeat (first | exact Kept.refl _ _ | refine Kept.alloc ?_ _)⟩
    case pos =>
      rw [if_pos ho] at hr
      have ho2 : (x.off == 0) = true := by simpa using ho
      clear ho
      by_cases h8 : k = 8
      · subst h8
        rw [if_pos rfl] at hr
        rcases hc47 with rfl | rfl <;> cases xb <;> cases hs : (x.src == 0)
        all_goals
          try simp only [hs] at hr
          try simp only [Bool.not_false, Bool.not_true, Bool.true_and, Bool.false_and, Bool.and_true, Bool.and_false, Bool.true_or, Bool.false_or, Bool.or_true, Bool.or_false, if_true, if_false, Bool.false_eq_true, reduceIte, Int.reduceBEq] at hr
          subst hr
          go_enter Tryz.func78, Tryz.ntmps78
          go_wp2_with (first | (go_at_call 81; refine (HC.out _).mono ?_; rintro e w2 ⟨rfl, rfl⟩) | (go_at_call 82; refine (HK.out _).mono ?_; rintro e w2 ⟨rfl, rfl⟩) | (go_at_call 109; refine (HX.out _).mono ?_; rintro e w2 ⟨rfl, rfl⟩) | (go_at_call 108; refine (HS.out _).mono ?_; rintro e w2 ⟨rfl, rfl⟩) | (go_at_call 61; refine (HW.out _).mono ?_; rintro e w2 ⟨rfl, rfl⟩))
          all_goals
            go_ret
            exact ⟨rfl, by repeat (first | exact Kept.refl _ _ | refine Kept.alloc ?_ _)⟩
      rw [if_neg h8] at hr
      have k1 : (k == 8) = false := by simpa using h8
      by_cases h13 : k = 13
      · subst h13
        rw [if_pos rfl] at hr
        clear h8 k1
        have him : ((x.imm == 16) = true ∨ (x.imm == 16) = false ∧ (x.imm == 32) = true ∨ (x.imm == 16) = false ∧ (x.imm == 32) = false ∧ (x.imm == 64) = true) ∨ (x.imm == 16) = false ∧ (x.imm == 32) = false ∧ (x.imm == 64) = false := by
          cases (x.imm == 16) <;> cases (x.imm == 32) <;> cases (x.imm == 64) <;> simp
        rcases hc47 with rfl | rfl <;> rcases him with (i1 | ⟨i1, i2⟩ | ⟨i1, i2, i3⟩) | ⟨i1, i2, i3⟩ <;> cases xb <;> cases hs : (x.src == 0)
        all_goals
          try simp only [hs] at hr
          try simp only [i1] at hr
          try simp only [i2] at hr
          try simp only [i3] at hr
          try simp only [Bool.not_false, Bool.not_true, Bool.true_and, Bool.false_and, Bool.and_true, Bool.and_false, Bool.true_or, Bool.false_or, Bool.or_true, Bool.or_false, if_true, if_false, Bool.false_eq_true, reduceIte, Int.reduceBEq] at hr
          subst hr
          go_enter Tryz.func78, Tryz.ntmps78
          go_wp2_with (first | (go_at_call 81; refine (HC.out _).mono ?_; rintro e w2 ⟨rfl, rfl⟩) | (go_at_call 82; refine (HK.out _).mono ?_; rintro e w2 ⟨rfl, rfl⟩) | (go_at_call 109; refine (HX.out _).mono ?_; rintro e w2 ⟨rfl, rfl⟩) | (go_at_call 108; refine (HS.out _).mono ?_; rintro e w2 ⟨rfl, rfl⟩) | (go_at_call 61; refine (HW.out _).mono ?_; rintro e w2 ⟨rfl, rfl⟩))
          all_goals
            go_ret
            exact ⟨rfl, by repeat (first | exact Kept.refl _ _ | refine Kept.alloc ?_ _)⟩
      rw [if_neg h13] at hr
      have k2 : (k == 13) = false := by simpa using h13
      clear h8 h13
      by_cases hg : 13 < k
      · rw [if_pos hg] at hr
        have k3 : decide (13 < k) = true := decide_eq_true hg
        clear hg
        subst hr
        rcases hc47 with rfl | rfl <;> cases xb
        all_goals
          go_enter Tryz.func78, Tryz.ntmps78
          go_wp2_with (first | (go_at_call 81; refine (HC.out _).mono ?_; rintro e w2 ⟨rfl, rfl⟩) | (go_at_call 82; refine (HK.out _).mono ?_; rintro e w2 ⟨rfl, rfl⟩) | (go_at_call 109; refine (HX.out _).mono ?_; rintro e w2 ⟨rfl, rfl⟩) | (go_at_call 108; refine (HS.out _).mono ?_; rintro e w2 ⟨rfl, rfl⟩) | (go_at_call 61; refine (HW.out _).mono ?_; rintro e w2 ⟨rfl, rfl⟩))
          all_goals
            go_ret
            exact ⟨rfl, by repeat (first | exact Kept.refl _ _ | refine Kept.alloc ?_ _)⟩
      · rw [if_neg hg] at hr
        have k3 : decide (13 < k) = false := decide_eq_false hg
        clear hg
        rcases hc47 with rfl | rfl <;> cases xb <;> cases hi : (x.imm == 0)
        all_goals
          try simp only [hi] at hr
          try simp only [Bool.not_false, Bool.not_true, Bool.true_and, Bool.false_and, Bool.and_true, Bool.and_false, Bool.true_or, Bool.false_or, Bool.or_true, Bool.or_false, if_true, if_false, Bool.false_eq_true, reduceIte, Int.reduceBEq] at hr
          subst hr
          go_enter Tryz.func78, Tryz.ntmps78
          go_wp2_with (first | (go_at_call 81; refine (HC.out _).mono ?_; rintro e w2 ⟨rfl, rfl⟩) | (go_at_call 82; refine (HK.out _).mono ?_; rintro e w2 ⟨rfl, rfl⟩) | (go_at_call 109; refine (HX.out _).mono ?_; rintro e w2 ⟨rfl, rfl⟩) | (go_at_call 108; refine (HS.out _).mono ?_; rintro e w2 ⟨rfl, rfl⟩) | (go_at_call 61; refine (HW.out _).mono ?_; rintro e w2 ⟨rfl, rfl⟩))
          all_goals
            go_ret
            exact ⟨rfl, by repeat (first | exact Kept.refl _ _ | refine Kept.alloc ?_ _)⟩

end Go.Proofs.YtlkgmcacbfoijaaGreat

