import Derived.Deep.CutBlock
import Derived.Deep.DeepCutAuto
import Derived.Outline
import Derived.Test.YtlkgmcacbfoijaaJm
set_option linter.unusedSimpArgs false
set_option linter.unusedVariables false
namespace Go.Proofs.Ytlkgmcacbfoijaa
open Go.RowKit

/-! ### the document's slots -/
/-- the world behind a function that takes a slot -/
abbrev World.boxed (w : World) (x : In) : World := w.alloc (.cells (inVals x) 25)
theorem xB_eq {x : In} (h : InOk x) : (x.op / 8 % 2 == 1) = xB x := by
  unfold xB
  rw [Bool.eq_iff_iff]
  simp
  omega
set_option maxHeartbeats 1000000 in
theorem rclass_any (x : In) (w : World) (hx : InOk x) : Calls Try.prog 21 #[.agg (inVals x)] w fun e w' => e = .returned (.int .i64 (clsI x)) ∧ w' = w.alloc (.cells (inVals x) 25) := by
  have hop := hx.op
  go_enter Try.func21, Try.ntmps21
  go_wp2_with (fail)
  go_ret
  exact ⟨rfl, rfl⟩

set_option maxHeartbeats 1000000 in
theorem rcode_any (x : In) (w : World) (hx : InOk x) : Calls Try.prog 22 #[.agg (inVals x)] w fun e w' => e = .returned (.int .i64 (codeI x)) ∧ w' = w.alloc (.cells (inVals x) 25) := by
  have hop := hx.op
  go_enter Try.func22, Try.ntmps22
  go_wp2_with (fail)
  go_ret
  exact ⟨rfl, rfl⟩

set_option maxHeartbeats 1000000 in
theorem rwide_any (x : In) (w : World) : Calls Try.prog 33 #[.agg (inVals x)] w fun e w' => e = .returned (.bool (x.op == 24)) ∧ w' = w.alloc (.cells (inVals x) 25) := by
  go_enter Try.func33, Try.ntmps33
  go_wp2_with (fail)
  go_ret
  exact ⟨rfl, rfl⟩

def sizeC (x : In) : Int := if x.op = 97 ∨ x.op = 98 ∨ x.op = 99 then 4 else if x.op = 105 ∨ x.op = 106 ∨ x.op = 107 then 2 else if x.op = 113 ∨ x.op = 114 ∨ x.op = 115 then 1 else if x.op = 121 ∨ x.op = 122 ∨ x.op = 123 then 8 else 0
theorem memB_size {x : In} (hx : InOk x) : (clsI x = 1 ∨ clsI x = 3 → memB x = (decide (0 < sizeC x) && (x.imm == 0))) ∧ (clsI x = 2 → memB x = (decide (0 < sizeC x) && (x.src == 0))) := by
  have hop := hx.op
  unfold clsI memB sizeC
  refine ⟨fun h => ?_, fun h => ?_⟩
  · by_cases h1 : x.op = 97 ∨ x.op = 99
    · rw [if_pos (by omega), if_pos (by omega)]; rfl
    by_cases h2 : x.op = 105 ∨ x.op = 107
    · rw [if_pos (by omega), if_neg (by omega), if_pos (by omega)]; rfl
    by_cases h3 : x.op = 113 ∨ x.op = 115
    · rw [if_pos (by omega), if_neg (by omega), if_neg (by omega), if_pos (by omega)]; rfl
    by_cases h4 : x.op = 121 ∨ x.op = 123
    · rw [if_pos (by omega), if_neg (by omega), if_neg (by omega), if_neg (by omega), if_pos (by omega)]; rfl
    · rw [if_neg (by omega), if_neg (by omega), if_neg (by omega), if_neg (by omega), if_neg (by omega), if_neg (by omega)]; rfl
  · by_cases h1 : x.op = 98
    · rw [if_neg (by omega), if_pos (by omega), if_pos (by omega)]; rfl
    by_cases h2 : x.op = 106
    · rw [if_neg (by omega), if_pos (by omega), if_neg (by omega), if_pos (by omega)]; rfl
    by_cases h3 : x.op = 114
    · rw [if_neg (by omega), if_pos (by omega), if_neg (by omega), if_neg (by omega), if_pos (by omega)]; rfl
    by_cases h4 : x.op = 122
    · rw [if_neg (by omega), if_pos (by omega), if_neg (by omega), if_neg (by omega), if_neg (by omega), if_pos (by omega)]; rfl
    · rw [if_neg (by omega), if_neg (by omega), if_neg (by omega), if_neg (by omega), if_neg (by omega), if_neg (by omega)]; rfl


open Go.RowKit

/-! ### the document's Known -/
open Go.RowKit

/-! ### the document's Known -/
open Go.RowKit

/-! ### the document's Known -/
open Go.RowKit

/-! ### the document's Known -/
open Go.RowKit
open Go.RowKit

/-! ### the document's kinds of slots -/
def isR (x : In) (k : Int) : Bool := (clsI x == 5) && (codeI x == k)
set_option maxHeartbeats 2000000 in
theorem ris_any (x : In) (k : Int) (w : World) (hx : InOk x) : Calls Try.prog 10 #[.agg (inVals x), .int .i64 k] w fun e w' => e = .returned (.bool (isR x k)) ∧ Kept (fun _ => False) w w' := by
  have HC := Lib.hid (fun W => rclass_any x W hx)
  have HK := Lib.hid (fun W => rcode_any x W hx)
  obtain ⟨r, hr⟩ : ∃ r, isR x k = r := ⟨_, rfl⟩
  rw [hr]
  unfold isR at hr
  generalize clsI x = c at *
  generalize codeI x = kk at *
  cases h5 : (c == 5)
  all_goals
    simp only [h5, Bool.true_and, Bool.false_and] at hr
    subst hr
    go_enter Try.func10, Try.ntmps10
    go_wp2_with (first
      | (go_at_call 21; refine (HC.out _).mono ?_; rintro e w2 ⟨rfl, rfl⟩)
      | (go_at_call 22; refine (HK.out _).mono ?_; rintro e w2 ⟨rfl, rfl⟩))
    go_ret
    exact ⟨rfl, by repeat (first | exact Kept.refl _ _ | refine Kept.alloc ?_ _)⟩
def cmpR (x : In) : Bool := (((clsI x == 5 || clsI x == 6) && (codeI x != 0)) && (codeI x != 8)) && (codeI x != 9)
set_option maxHeartbeats 4000000 in
theorem rcompares_any (x : In) (w : World) (hx : InOk x) : Calls Try.prog 32 #[.agg (inVals x)] w fun e w' => e = .returned (.bool (cmpR x)) ∧ Kept (fun _ => False) w w' := by
  have HC := Lib.hid (fun W => rclass_any x W hx)
  have HK := Lib.hid (fun W => rcode_any x W hx)
  obtain ⟨r, hr⟩ : ∃ r, cmpR x = r := ⟨_, rfl⟩
  rw [hr]
  unfold cmpR at hr
  generalize clsI x = c at *
  generalize codeI x = k at *
  cases h5 : (c == 5) <;> cases h6 : (c == 6) <;> cases h0 : (k != 0) <;> cases h8 : (k != 8)
  all_goals
    simp only [h5, h6, h0, h8, Bool.true_and, Bool.false_and, Bool.true_or, Bool.false_or, Bool.and_true, Bool.and_false] at hr
    subst hr
    go_enter Try.func32, Try.ntmps32
    go_wp2_with (first
      | (go_at_call 21; refine (HC.out _).mono ?_; rintro e w2 ⟨rfl, rfl⟩)
      | (go_at_call 22; refine (HK.out _).mono ?_; rintro e w2 ⟨rfl, rfl⟩))
    go_ret
    exact ⟨rfl, by repeat (first | exact Kept.refl _ _ | refine Kept.alloc ?_ _)⟩
def toR (n : Nat) (i b : Int) : Int := if i + 1 + b < 0 then -1 else if (n : Int) ≤ i + 1 + b then -1 else i + 1 + b
open Go.RowKit

def namesR (x : In) : Bool := (isR x 8 && (x.src == 1)) || ((x.op == 24) && (x.src == 4))
def helperR (x : In) : Bool := isR x 8 && (x.src == 0)
/-! ### Seconds -/
open Go.RowKit

/-! ### the subprogram of a slot -/
def inP (p : Pt2) (t : Int) : Bool := decide (p.1 ≤ t) && decide (t < p.2)
def ofS (P : List Pt2) (t : Int) : Nat → Nat → Int
  | _, 0 => -1
  | i, n + 1 => if (P[i]?.map (fun p => inP p t)).getD false = true then (i : Int) else ofS P t (i + 1) n
def ofC (P : List Pt2) (t : Int) : Int := ofS P t 0 P.length
set_option linter.unusedSimpArgs false
set_option linter.unusedVariables false
open Go.RowKit

/-! ### of what is known both say the same -/
theorem isR8 {x : In} (h : InOk x) (hk : knownB x = true) : isR x 8 = (x.op == 133) := by
  have hop := h.op
  by_cases h1 : x.op = 133
  · unfold isR clsI codeI
    rw [h1]
    rfl
  by_cases h2 : x.op = 141
  · exfalso
    unfold knownB jumpB wholeJ clsI codeI xB at hk
    rw [h2] at hk
    simp at hk
  · have e1 : isR x 8 = false := by
      unfold isR clsI codeI
      rw [Bool.eq_false_iff]
      simp
      omega
    rw [e1]
    symm
    simpa using h1
theorem isR9 {x : In} (h : InOk x) (hk : knownB x = true) : isR x 9 = (x.op == 149) := by
  have hop := h.op
  by_cases h1 : x.op = 149
  · unfold isR clsI codeI
    rw [h1]
    rfl
  by_cases h2 : x.op = 157
  · exfalso
    unfold knownB jumpB wholeJ clsI codeI xB at hk
    rw [h2] at hk
    simp at hk
  · have e1 : isR x 9 = false := by
      unfold isR clsI codeI
      rw [Bool.eq_false_iff]
      simp
      omega
    rw [e1]
    symm
    simpa using h1
theorem isR0 {x : In} (h : InOk x) (hk : knownB x = true) : isR x 0 = (x.op == 5) := by
  have hop := h.op
  by_cases h1 : x.op = 5
  · unfold isR clsI codeI
    rw [h1]
    rfl
  by_cases h2 : x.op = 13
  · exfalso
    unfold knownB jumpB wholeJ clsI codeI xB at hk
    rw [h2] at hk
    simp at hk
  · have e1 : isR x 0 = false := by
      unfold isR clsI codeI
      rw [Bool.eq_false_iff]
      simp
      omega
    rw [e1]
    symm
    simpa using h1
theorem names_eq {x : In} (h : InOk x) (hk : knownB x = true) : namesR x = isCallB x := by
  unfold namesR isCallB
  rw [isR8 h hk]
theorem helper_eq {x : In} (h : InOk x) (hk : knownB x = true) : helperR x = ((x.op == 133) && (x.src == 0)) := by
  unfold helperR
  rw [isR8 h hk]
/-- a jump: a Ja or a comparison -/
theorem jump_eq {x : In} (h : InOk x) (hk : knownB x = true) : isJumpB x = (isR x 0 || cmpR x) := by
  by_cases h6 : clsI x = 6 ∧ codeI x = 0
  · exfalso
    unfold knownB jumpB wholeJ at hk
    rw [h6.1, h6.2] at hk
    simp at hk
  · unfold isJumpB isR cmpR
    cases h5 : (clsI x == 5) <;> cases h6' : (clsI x == 6) <;> cases h0 : (codeI x == 0) <;> cases h8 : (codeI x == 8) <;> cases h9 : (codeI x == 9) <;> simp only [bne, h5, h6', h0, h8, h9] <;> first | rfl | (exfalso; simp only [beq_iff_eq, beq_eq_false_iff_ne, ne_eq] at h5 h6' h0 h8 h9; omega)


open Go.RowKit

/-! ### one -/
def callR (l : List In) (i : Nat) (x : In) : Int := if toR l.length i x.imm < 1 then 14 else if (secL l)[(toR l.length i x.imm).toNat]? = some true then 14 else 0
def restR (l : List In) (i : Nat) (x : In) : Int := if (helperR x && (decide (x.imm < 1) || decide (28 < x.imm))) = true then 14 else if namesR x = true then callR l i x else 0
def oneC (l : List In) (i : Nat) (x : In) : Int := if knownB x = false then 11 else if ((decide (10 < x.dst) || decide (10 < x.src)) || (x.dst == 10 && writesB x)) = true then 12
  else if (x.op == 24 && !wholeB l i) = true then 13 else restR l i x
open Go.RowKit

/-! ### the document's and the program's slots -/
theorem one_eq {l : List In} {i : Nat} {x : In} (hi : i < l.length) (h : InOk x) : oneC l i x = wrongC l i x := by
  unfold oneC wrongC
  by_cases hk : knownB x = false
  · rw [if_pos hk, if_pos hk]
  rw [if_neg hk, if_neg hk]
  have hk : knownB x = true := by simpa using hk
  split
  · rfl
  split
  · rfl
  unfold restR restC
  rw [names_eq h hk, helper_eq h hk]
  have hc : callR l i x = callC l ((i : Int) + 1 + x.imm) := by
    unfold callR callC toR
    by_cases h1 : (i : Int) + 1 + x.imm < 0
    · rw [if_pos h1, if_pos (by omega), if_pos (by omega)]
    rw [if_neg h1]
    by_cases h2 : (l.length : Int) ≤ (i : Int) + 1 + x.imm
    · rw [if_pos h2, if_pos (by omega)]
      split
      · rfl
      · rfl
    · rw [if_neg h2]
      split
      · rfl
      · rfl
  rw [hc]
  by_cases h133 : x.op = 133
  · have hs : x.src ≤ 1 := by
      unfold knownB jumpB wholeJ clsI codeI xB at hk
      rw [h133] at hk
      simp at hk
      omega
    have hs0 := h.src
    unfold isCallB
    rw [h133]
    rcases (by omega : x.src = 0 ∨ x.src = 1) with e | e
    · rw [e]
      simp
    · rw [e]
      simp
  · have h1 : (x.op == 133) = false := by simpa using h133
    rw [h1]
    simp

/-! ### where subprograms begin -/
def markL (l : List In) : Nat → List Bool
  | 0 => (List.replicate l.length false).set 0 true
  | i + 1 => match tgtC l i with | some t => (markL l i).set t.toNat true | none => markL l i
theorem mark_len (l : List In) : ∀ n, (markL l n).length = l.length
  | 0 => by simp [markL]
  | n + 1 => by
    unfold markL
    split
    · rw [List.length_set, mark_len l n]
    · exact mark_len l n
theorem mark_iff {l : List In} (h : slotsC l = 0) : ∀ (n k : Nat), (markL l n)[k]? = some true ↔ k < l.length ∧ (k = 0 ∨ ∃ j, j < n ∧ tgtC l j = some (k : Int))
  | 0, k => by
    unfold markL
    rw [List.getElem?_set]
    by_cases hk : k < l.length
    · by_cases h0 : k = 0
      · subst h0
        simp [hk]
      · rw [if_neg (fun e => h0 e.symm), List.getElem?_replicate]
        simp [hk, h0]
    · have hl : l.length ≤ k := by omega
      by_cases h0 : k = 0
      · subst h0
        have h0 : l = [] := List.eq_nil_of_length_eq_zero (by omega)
        simp [h0]
      · rw [if_neg (fun e => h0 e.symm), List.getElem?_replicate]
        simp [hk]
  | n + 1, k => by
    unfold markL
    cases ht : tgtC l n with
    | none =>
      simp only
      rw [mark_iff h n k]
      constructor
      · rintro ⟨h1, h2 | ⟨j, h3, h4⟩⟩
        · exact ⟨h1, .inl h2⟩
        · exact ⟨h1, .inr ⟨j, by omega, h4⟩⟩
      · rintro ⟨h1, h2 | ⟨j, h3, h4⟩⟩
        · exact ⟨h1, .inl h2⟩
        · rcases Nat.eq_or_lt_of_le (Nat.le_of_lt_succ h3) with rfl | h5
          · rw [ht] at h4
            cases h4
          · exact ⟨h1, .inr ⟨j, h5, h4⟩⟩
    | some t =>
      simp only
      obtain ⟨r1, r2, _⟩ := tgt_rng h ht
      rw [List.getElem?_set, mark_len]
      by_cases he : t.toNat = k
      · rw [if_pos he, if_pos (by omega)]
        simp only [true_iff]
        exact ⟨by omega, .inr ⟨n, by omega, by rw [ht]; congr 1; omega⟩⟩
      · rw [if_neg he, mark_iff h n k]
        constructor
        · rintro ⟨h1, h2 | ⟨j, h3, h4⟩⟩
          · exact ⟨h1, .inl h2⟩
          · exact ⟨h1, .inr ⟨j, by omega, h4⟩⟩
        · rintro ⟨h1, h2 | ⟨j, h3, h4⟩⟩
          · exact ⟨h1, .inl h2⟩
          · rcases Nat.eq_or_lt_of_le (Nat.le_of_lt_succ h3) with rfl | h5
            · rw [ht] at h4
              injection h4 with h4
              omega
            · exact ⟨h1, .inr ⟨j, h5, h4⟩⟩
def outL (m : List Bool) (n : Nat) : List Int := (List.range n).filterMap (fun (k : Nat) => if m[k]? = some true then some (k : Int) else none)
theorem out_succ (m : List Bool) (n : Nat) (b : Bool) (h : m[n]? = some b) : outL m (n + 1) = outL m n ++ (if b = true then [(n : Int)] else []) := by
  unfold outL
  rw [List.range_succ, List.filterMap_append]
  cases b <;> simp [h]
theorem out_len (m : List Bool) (n : Nat) : (outL m n).length ≤ n := by
  unfold outL
  exact Nat.le_trans (List.length_filterMap_le _ _) (by simp)
theorem starts_eq {l : List In} (h : slotsC l = 0) : outL (markL l l.length) l.length = beginsL l := by
  obtain ⟨b1, b2, b3⟩ := begins_ok h
  refine rising_eq ?_ b1 fun t => ?_
  · unfold outL
    refine List.Pairwise.filterMap _ ?_ List.pairwise_lt_range
    intro a b hab t ht u hu
    split at ht
    · split at hu
      · cases ht
        cases hu
        exact Int.ofNat_lt.2 hab
      · cases hu
    · cases ht
  · have hm : t ∈ outL (markL l l.length) l.length ↔ ∃ k : Nat, k < l.length ∧ (markL l l.length)[k]? = some true ∧ (k : Int) = t := by
      unfold outL
      rw [List.mem_filterMap]
      constructor
      · rintro ⟨k, hk, he⟩
        split at he
        · rename_i hh
          cases he
          exact ⟨k, List.mem_range.1 hk, hh, rfl⟩
        · cases he
      · rintro ⟨k, hk, hh, rfl⟩
        exact ⟨k, List.mem_range.2 hk, by rw [if_pos hh]⟩
    rw [hm, b2]
    constructor
    · rintro ⟨k, hk, hh, rfl⟩
      rcases ((mark_iff h _ _).1 hh).2 with rfl | ⟨j, hj, e⟩
      · exact .inl rfl
      · exact .inr ⟨j, hj, e⟩
    · intro ht
      obtain ⟨c1, c2, c3⟩ := b3 t ((b2 t).2 ht)
      refine ⟨t.toNat, by omega, (mark_iff h _ _).2 ⟨by omega, ?_⟩, by omega⟩
      rcases ht with rfl | ⟨j, hj, e⟩
      · exact .inl rfl
      · exact .inr ⟨j, hj, by rw [e]; congr 1; omega⟩


set_option linter.unusedSimpArgs false
set_option linter.unusedVariables false
open Go.RowKit

/-! ### Starts -/
theorem known_of {l : List In} (hz : slotsC l = 0) {i : Nat} {x : In} (hx : l[i]? = some x) (hs : (secL l)[i]? = some false) : knownB x = true := by
  obtain ⟨_, _, h⟩ := slots_zero hz
  have hw := h i (List.getElem?_eq_some_iff.1 hx).1
  rw [slot_wrong hx hs] at hw
  exact (wrong_rest hw).1
theorem Bls.fwd {w w' : World} {F : Nat → Prop} {v : Value} {B : List Bool} (hk : Kept F w w') (h : Bls w v B) (hf : ∀ g, v.ownBlock = some g → ¬ F g) : Bls w' v B := Sl.kept hk h (fun g hg => hf g hg)
open Go.RowKit

/-! ### Subs -/
def subsC (l : List In) : Int := if slotsC l = 0 then endedC l (partsL l) else slotsC l
open Go.RowKit

/-! ### the parts of slots without a fault -/
theorem ofS_at {P : List Pt2} {t : Int} {k : Nat} {p : Pt2} (hp : P[k]? = some p) (hin : inP p t = true) (hno : ∀ j q, j < k → P[j]? = some q → inP q t = false) :
    ∀ (n i : Nat), i ≤ k → k < i + n → ofS P t i n = k
  | 0, i, h1, h2 => by omega
  | n + 1, i, h1, h2 => by
    unfold ofS
    rcases Nat.eq_or_lt_of_le h1 with rfl | hlt
    · rw [hp]
      simp [hin]
    · obtain ⟨q, hq⟩ : ∃ q, P[i]? = some q := ⟨_, List.getElem?_eq_getElem (by have := (List.getElem?_eq_some_iff.1 hp).1; omega)⟩
      rw [hq]
      simp only [Option.map_some, Option.getD_some, hno i q hlt hq, Bool.false_eq_true, if_false]
      exact ofS_at hp hin hno n (i + 1) hlt (by omega)
theorem begins_zero {l : List In} (h : slotsC l = 0) : 0 < (beginsL l).length ∧ (beginsL l).getD 0 0 = 0 := by
  obtain ⟨b1, b2, b3⟩ := begins_ok h
  have h0 : (0 : Int) ∈ beginsL l := (b2 0).2 (.inl rfl)
  obtain ⟨j, hj, e⟩ := List.mem_iff_getElem.1 h0
  have hp : 0 < (beginsL l).length := by omega
  refine ⟨hp, ?_⟩
  rw [List.getD_eq_getElem?_getD, List.getElem?_eq_getElem hp]
  show (beginsL l)[0] = 0
  have := (b3 _ (List.getElem_mem hp)).1
  rcases Nat.eq_zero_or_pos j with rfl | hj0
  · exact e
  · have := List.pairwise_iff_getElem.1 b1 0 j hp hj hj0
    omega
theorem begins_lt {l : List In} (h : slotsC l = 0) {i j : Nat} (hij : i < j) (hj : j < (beginsL l).length) : (beginsL l).getD i 0 < (beginsL l).getD j 0 := by
  obtain ⟨b1, b2, b3⟩ := begins_ok h
  have hi : i < (beginsL l).length := by omega
  rw [List.getD_eq_getElem?_getD, List.getD_eq_getElem?_getD, List.getElem?_eq_getElem hi, List.getElem?_eq_getElem hj]
  exact List.pairwise_iff_getElem.1 b1 i j hi hj hij
theorem parts_get {l : List In} {k : Nat} (hk : k < (beginsL l).length) : (partsL l)[k]? = some (partAt (beginsL l) l.length k) := by
  unfold partsL partsOf
  rw [List.getElem?_map, range_take _ _ hk]
  rfl
theorem part_find {l : List In} (h : slotsC l = 0) {t : Int} (ht : t < l.length) : ∀ (n m : Nat), m + n = (beginsL l).length → m < (beginsL l).length → (beginsL l).getD m 0 ≤ t →
    ∃ k, k < (beginsL l).length ∧ (partAt (beginsL l) l.length k).1 ≤ t ∧ t < (partAt (beginsL l) l.length k).2
  | 0, m, h1, h2, _ => by omega
  | n + 1, m, h1, h2, h3 => by
    by_cases hn : m + 1 < (beginsL l).length
    · by_cases h4 : (beginsL l).getD (m + 1) 0 ≤ t
      · exact part_find h ht n (m + 1) (by omega) hn h4
      · refine ⟨m, h2, h3, ?_⟩
        unfold partAt
        rw [if_pos hn]
        exact Int.not_le.1 h4
    · refine ⟨m, h2, h3, ?_⟩
      unfold partAt
      rw [if_neg hn]
      exact ht
theorem part_of {l : List In} (h : slotsC l = 0) {k : Nat} {p : Pt2} (hp : (partsL l)[k]? = some p) {t : Int} (h1 : p.1 ≤ t) (h2 : t < p.2) : ofC (partsL l) t = k := by
  unfold ofC
  refine ofS_at hp (by unfold inP; simp [h1, h2]) (fun j q hj hq => ?_) _ 0 (by omega) (by have := (List.getElem?_eq_some_iff.1 hp).1; omega)
  obtain ⟨hkb, rfl⟩ := parts_at hp
  obtain ⟨hjb, rfl⟩ := parts_at hq
  unfold inP
  rw [Bool.and_eq_false_iff]
  right
  unfold partAt at h1 ⊢
  rw [if_pos (by omega)]
  simp only at h1 ⊢
  rcases Nat.eq_or_lt_of_le (show j + 1 ≤ k from hj) with rfl | hlt
  · exact decide_eq_false (by omega)
  · have := begins_lt h hlt hkb
    exact decide_eq_false (by omega)
theorem part_ex {l : List In} (h : slotsC l = 0) {t : Int} (h0 : 0 ≤ t) (ht : t < l.length) : ∃ (k : Nat) (p : Pt2), (partsL l)[k]? = some p ∧ p.1 ≤ t ∧ t < p.2 ∧ ofC (partsL l) t = k := by
  obtain ⟨hp, hz⟩ := begins_zero h
  obtain ⟨k, hk, h1, h2⟩ := part_find h ht (beginsL l).length 0 (by omega) hp (by rw [hz]; exact h0)
  exact ⟨k, _, parts_get hk, h1, h2, part_of h (parts_get hk) h1 h2⟩

/-! ### jumps that lead nowhere -/
def badR (l : List In) (i : Nat) : Bool := match l[i]?, (secL l)[i]? with
  | some x, some false => isJumpB x && (decide (toR l.length i x.off < 0) || ((secL l)[(toR l.length i x.off).toNat]? == some true || ofC (partsL l) (toR l.length i x.off) != ofC (partsL l) i))
  | _, _ => false
theorem bad_eq {l : List In} (h : slotsC l = 0) {k : Nat} {f t : Nat} (hp : (partsL l)[k]? = some ((f : Int), (t : Int))) {i : Nat} (h1 : f ≤ i) (h2 : i < t) : badR l i = jbadB l f t i := by
  obtain ⟨hr1, hr2, hr3⟩ := (parts_ok h).rng _ (List.mem_of_getElem? hp)
  unfold badR jbadB
  cases hx : l[i]? with
  | none => rfl
  | some x =>
    cases hb : (secL l)[i]? with
    | none => rfl
    | some b =>
      cases b
      case true => rfl
      case false =>
        simp only
        have hi := part_of h hp (t := i) (Int.ofNat_le.2 h1) (Int.ofNat_lt.2 h2)
        congr 1
        unfold goC toR
        generalize (i : Int) + 1 + x.off = n
        simp only at hr3
        rw [hi]
        by_cases c1 : n < 0
        · rw [if_pos c1]
          have : decide (n < (f : Int)) = true := decide_eq_true (by omega)
          rw [this]
          simp
        rw [if_neg c1]
        by_cases c2 : (l.length : Int) ≤ n
        · rw [if_pos c2]
          have : decide ((t : Int) ≤ n) = true := decide_eq_true (by omega)
          rw [this]
          simp
        rw [if_neg c2]
        have hd0 : decide (n < 0) = false := decide_eq_false c1
        rw [hd0, Bool.false_or]
        by_cases c3 : (f : Int) ≤ n ∧ n < t
        · have hn := part_of h hp (t := n) c3.1 c3.2
          have e1 : decide (n < (f : Int)) = false := decide_eq_false (by omega)
          have e2 : decide ((t : Int) ≤ n) = false := decide_eq_false (by omega)
          rw [hn, e1, e2]
          simp
        · obtain ⟨k2, p2, hp2, q1, q2, hn⟩ := part_ex h (t := n) (by omega) (by omega)
          have hne : k2 ≠ k := by
            rintro rfl
            rw [hp] at hp2
            cases hp2
            exact c3 ⟨q1, q2⟩
          have hbn : (((k2 : Nat) : Int) != (k : Int)) = true := bne_iff_ne.2 (by omega)
          rw [hn, hbn]
          have hor : (decide (n < (f : Int)) || decide ((t : Int) ≤ n)) = true := by
            by_cases c4 : n < (f : Int)
            · rw [decide_eq_true c4, Bool.true_or]
            · rw [decide_eq_true (p := (t : Int) ≤ n) (by omega), Bool.or_true]
          rw [Bool.or_true, ← Bool.or_assoc, hor, Bool.true_or]
theorem leads_eq {l : List In} (h : slotsC l = 0) : leadsB l (partsL l) = (List.range l.length).all fun i => !badR l i := by
  rw [Bool.eq_iff_iff]
  unfold leadsB
  simp only [List.all_eq_true, List.mem_range, Bool.not_eq_true']
  constructor
  · intro hl i hi
    obtain ⟨k, p, hp, h1, h2, _⟩ := part_ex h (t := i) (by omega) (by omega)
    obtain ⟨f, t, rfl, hft, htl⟩ := (parts_ok h).nat hp
    simp only at h1 h2
    rw [bad_eq h hp (by omega) (by omega)]
    have := hl _ (List.mem_of_getElem? hp)
    unfold leadB at this
    simp only [List.all_eq_true, List.mem_range, Bool.not_eq_true', Int.toNat_natCast] at this
    have h3 := this (i - f) (by omega)
    rwa [show f + (i - f) = i by omega] at h3
  · intro hl p hp
    obtain ⟨k, hk⟩ := List.mem_iff_getElem?.1 hp
    obtain ⟨f, t, rfl, hft, htl⟩ := (parts_ok h).nat hk
    unfold leadB
    simp only [List.all_eq_true, List.mem_range, Bool.not_eq_true', Int.toNat_natCast]
    intro j hj
    rw [← bad_eq h hk (by omega) (by omega)]
    exact hl _ (by omega)


set_option linter.unusedSimpArgs false
set_option linter.unusedVariables false
open Go.RowKit

/-! ### Check -/
theorem all_step {q : Nat → Bool} {n : Nat} (h : ((List.range n).all fun i => !q i) = true) (hq : q n = false) : ((List.range (n + 1)).all fun i => !q i) = true := by
  rw [List.range_succ, List.all_append, h]
  simp [hq]
theorem all_stop {q : Nat → Bool} {n m : Nat} (hn : n < m) (hq : q n = true) : ((List.range m).all fun i => !q i) = false := by
  rw [List.all_eq_false]
  exact ⟨n, List.mem_range.2 hn, by simp [hq]⟩
theorem checkI_eq (l : List In) : checkI l = if subsC l = 0 then (if ((List.range l.length).all fun i => !badR l i) = true then 0 else 15) else subsC l := by
  unfold checkI subsC
  by_cases h : slotsC l = 0
  · rw [if_pos h, if_pos h]
    by_cases h2 : endedC l (partsL l) = 0
    · rw [if_pos h2, if_pos h2, leads_eq h]
    · rw [if_neg h2, if_neg h2]
  · rw [if_neg h, if_neg h, if_neg h]
theorem subs_zero {l : List In} (h : subsC l = 0) : slotsC l = 0 := by
  unfold subsC at h
  by_cases hz : slotsC l = 0
  · exact hz
  · rw [if_neg hz] at h
    exact absurd h hz

end Go.Proofs.Ytlkgmcacbfoijaa
