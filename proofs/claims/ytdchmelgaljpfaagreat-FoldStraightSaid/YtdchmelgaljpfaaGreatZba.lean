import Derived.Test.YtdchmelgaljpfaaGreatKc
import Derived.Test.YtdchmelgaljpfaaGreatZac
import Derived.Test.YtdchmelgaljpfaaGreatKz
set_option linter.unusedSimpArgs false
set_option linter.unusedVariables false
namespace Go.Proofs.YtdchmelgaljpfaaGreat
open Go.RowKit

theorem exit_nojump {x : In} (h : x.op = 149) : isJumpB x = false := by
  unfold isJumpB clsI codeI
  rw [h]
  rfl
theorem check_of {l : List In} (hz : slotsC l = 0) (h64 : (partsL l).length ≤ 64) (he : ∀ p ∈ partsL l, endB l p = true) (hb : ∀ i, i < l.length → badR l i = false) : checkI l = 0 := by
  rw [checkI_eq]
  have hs : subsC l = 0 := by
    unfold subsC
    rw [if_pos hz]
    unfold endedC
    rw [if_neg (by omega), if_pos (by simpa using he)]
  rw [if_pos hs, if_pos (by simpa using hb)]
theorem part_begin {l : List In} {t : Nat} (ht : (t : Int) ∈ beginsL l) : ∃ p ∈ partsL l, p.1 = (t : Int) := by
  obtain ⟨i, hi, e⟩ := List.mem_iff_getElem.1 ht
  refine ⟨partAt (beginsL l) l.length i, ?_, ?_⟩
  · unfold partsL partsOf
    exact List.mem_map.2 ⟨i, List.mem_range.2 hi, rfl⟩
  · unfold partAt
    show (beginsL l).getD i 0 = _
    rw [List.getD_eq_getElem?_getD, List.getElem?_eq_getElem hi, e]
    rfl

/-! ### programs without a fault, by what begins and where slots go -/
def behI (i : Nat) (x : In) : Nat := if x.op = 24 then i + 2 else i + 1
/-- no subprogram begins between two slots -/
def SameP (l : List In) (i n : Nat) : Prop := ∀ b ∈ beginsL l, b ≤ (i : Int) ↔ b ≤ (n : Int)
structure Va (l : List In) : Prop where
  one : 1 ≤ l.length
  most : l.length ≤ 4096
  wr : ∀ (i : Nat) (x : In), l[i]? = some x → (secL l)[i]? = some false → wrongC l i x = 0
  few : (beginsL l).length ≤ 64
  fall : ∀ (i : Nat) (x : In), l[i]? = some x → (secL l)[i]? = some false → x.op ≠ 149 → x.op ≠ 5 → behI i x < l.length ∧ (secL l)[behI i x]? = some false ∧ SameP l i (behI i x)
  jmp : ∀ (i : Nat) (x : In), l[i]? = some x → (secL l)[i]? = some false → isJumpB x = true → ∃ n : Nat, (i : Int) + 1 + x.off = n ∧ n < l.length ∧ (secL l)[n]? = some false ∧ SameP l i n
theorem SameP.symm {l : List In} {i n : Nat} (h : SameP l i n) : SameP l n i := fun b hb => (h b hb).symm
theorem SameP.trans {l : List In} {i n m : Nat} (h : SameP l i n) (k : SameP l n m) : SameP l i m := fun b hb => (h b hb).trans (k b hb)
theorem scan_of {l : List In} : ∀ (n i : Nat), (∀ k, i ≤ k → k < i + n → slotC l k = 0) → scanC l i n = 0
  | 0, i, _ => rfl
  | n + 1, i, h => by
    unfold scanC
    rw [if_pos (h i (Nat.le_refl _) (by omega))]
    exact scan_of n (i + 1) (fun k h1 h2 => h k (by omega) (by omega))
theorem slots_of {l : List In} (h1 : 1 ≤ l.length) (h2 : l.length ≤ 4096) (h : ∀ (i : Nat) (x : In), l[i]? = some x → (secL l)[i]? = some false → wrongC l i x = 0) : slotsC l = 0 := by
  unfold slotsC
  rw [if_neg (by omega)]
  refine scan_of _ _ fun k _ hk => ?_
  unfold slotC
  cases hx : l[k]? with
  | none => rfl
  | some x =>
    cases hb : (secL l)[k]? with
    | none => rfl
    | some b =>
      cases b
      · exact h k x hx hb
      · rfl
/-- a slot's subprogram, by the begins -/
theorem part_begins {l : List In} (h : slotsC l = 0) {t : Int} (h0 : 0 ≤ t) (ht : t < l.length) : ∃ k : Nat, ofC (partsL l) t = k ∧ k < (beginsL l).length ∧ ∀ j, j < (beginsL l).length → ((beginsL l).getD j 0 ≤ t ↔ j ≤ k) := by
  obtain ⟨k, p, hp, h1, h2, h3⟩ := part_ex h h0 ht
  obtain ⟨hk, rfl⟩ := parts_at hp
  refine ⟨k, h3, hk, fun j hj => ⟨fun h4 => ?_, fun h4 => ?_⟩⟩
  · rcases Nat.lt_or_ge k j with h5 | h5
    · exfalso
      unfold partAt at h2
      rw [if_pos (by omega)] at h2
      simp only at h2
      rcases Nat.eq_or_lt_of_le (show k + 1 ≤ j from h5) with rfl | h6
      · omega
      · have := begins_lt h h6 hj
        omega
    · exact h5
  · rcases Nat.eq_or_lt_of_le h4 with rfl | h6
    · exact h1
    · have := begins_lt h h6 hk
      have h7 : (beginsL l).getD k 0 ≤ t := h1
      omega
theorem same_iff {l : List In} (h : slotsC l = 0) {i n : Nat} (hi : i < l.length) (hn : n < l.length) : SameP l i n ↔ ofC (partsL l) n = ofC (partsL l) i := by
  obtain ⟨k, e1, hk, h1⟩ := part_begins h (t := i) (by omega) (by omega)
  obtain ⟨m, e2, hm, h2⟩ := part_begins h (t := n) (by omega) (by omega)
  have hget : ∀ j (hj : j < (beginsL l).length), (beginsL l).getD j 0 ∈ beginsL l := fun j hj => by
    rw [List.getD_eq_getElem?_getD, List.getElem?_eq_getElem hj]
    exact List.getElem_mem hj
  rw [e1, e2]
  constructor
  · intro hs
    have a1 := (h2 k hk).1 ((hs _ (hget k hk)).1 ((h1 k hk).2 (Nat.le_refl _)))
    have a2 := (h1 m hm).1 ((hs _ (hget m hm)).2 ((h2 m hm).2 (Nat.le_refl _)))
    omega
  · intro e b hb
    obtain ⟨j, hj, rfl⟩ := List.mem_iff_getElem.1 hb
    have e3 : (beginsL l)[j] = (beginsL l).getD j 0 := by rw [List.getD_eq_getElem?_getD, List.getElem?_eq_getElem hj]; rfl
    rw [e3, h1 j hj, h2 j hj]
    omega
theorem check_va {l : List In} (h : Va l) : checkI l = 0 := by
  have hz := slots_of h.one h.most h.wr
  refine check_of hz (by rw [parts_len]; exact h.few) (fun p hp => ?_) fun i hi => ?_
  · obtain ⟨k, hk⟩ := List.mem_iff_getElem?.1 hp
    obtain ⟨f, t, rfl, hft, htl⟩ := (parts_ok hz).nat hk
    have hpe := part_end hz hk
    simp only [Int.toNat_natCast] at hpe
    obtain ⟨m, rfl⟩ : ∃ m, t = m + 1 := ⟨t - 1, by omega⟩
    obtain ⟨hkb, hpa⟩ := parts_at hk
    -- the last slot of a part
    have hlast : ∀ (i : Nat) (x : In), l[i]? = some x → (secL l)[i]? = some false → f ≤ i → (i = m ∨ i + 1 = m ∧ (secL l)[m]? = some true) → x.op = 149 ∨ x.op = 5 := by
      intro i x hx hs hfi him
      by_cases h149 : x.op = 149
      · exact .inl h149
      by_cases h5 : x.op = 5
      · exact .inr h5
      exfalso
      obtain ⟨a1, a2, a3⟩ := h.fall i x hx hs h149 h5
      have ho := (same_iff hz (List.getElem?_eq_some_iff.1 hx).1 a1).1 a3
      have hpi := part_of hz hk (t := i) (by simp only; omega) (by simp only; omega)
      rw [hpi] at ho
      obtain ⟨k2, p2, hp2, q1, q2, q3⟩ := part_ex hz (t := (behI i x : Nat)) (by omega) (by omega)
      rw [ho] at q3
      obtain rfl : k = k2 := Int.ofNat_inj.1 q3
      rw [hk] at hp2
      cases hp2
      simp only at q1 q2
      have hbe : behI i x = i + 1 ∨ behI i x = i + 2 := by unfold behI; split <;> simp
      rcases him with rfl | ⟨him, hsm⟩
      · omega
      · rcases hbe with e | e
        · rw [e, him, hsm] at a2
          cases a2
        · omega
    unfold endB lastC
    simp only [Int.toNat_natCast, Nat.add_sub_cancel]
    obtain ⟨b, hb⟩ := sec_get (l := l) (i := m) (by omega)
    rw [hb]
    cases b
    · rw [if_neg (by simp)]
      obtain ⟨x, hx⟩ : ∃ x, l[m]? = some x := ⟨_, List.getElem?_eq_getElem (by omega)⟩
      rw [hx]
      rcases hlast m x hx hb (by omega) (.inl rfl) with e | e <;> simp [e]
    · rw [if_pos rfl]
      obtain ⟨q, rfl⟩ : ∃ q, m = q + 1 := ⟨m - 1, by
        rcases Nat.eq_zero_or_pos m with rfl | h
        · rw [sec_zero (by omega)] at hb; cases hb
        · omega⟩
      obtain ⟨x, hx⟩ : ∃ x, l[q]? = some x := ⟨_, List.getElem?_eq_getElem (by omega)⟩
      obtain ⟨b2, hb2⟩ := sec_get (l := l) (i := q) (by omega)
      have hsu := sec_succ hx hb2 (by omega)
      rw [hb] at hsu
      have hb2' : (secL l)[q]? = some false := by
        cases b2
        · exact hb2
        · simp at hsu
      have hfq : f ≤ q := by
        have hbf := (begins_ok hz).2.2 ((f : Nat) : Int) (by
          have e : ((f : Nat) : Int) = (beginsL l).getD k 0 := congrArg Prod.fst hpa
          rw [e, List.getD_eq_getElem?_getD, List.getElem?_eq_getElem hkb]
          exact List.getElem_mem hkb)
        rcases Nat.lt_or_ge q f with h6 | h6
        · exfalso
          obtain rfl : f = q + 1 := by omega
          have := hbf.2.2
          rw [Int.toNat_natCast, hb] at this
          cases this
        · exact h6
      rw [show q + 1 + 1 - 2 = q by omega, hx]
      rcases hlast q x hx hb2' hfq (.inr ⟨rfl, hb⟩) with e | e <;> simp [e]
  · unfold badR
    cases hx : l[i]? with
    | none => rfl
    | some x =>
      cases hb : (secL l)[i]? with
      | none => rfl
      | some b =>
        cases b
        case true => rfl
        case false =>
          simp only
          cases hj : isJumpB x
          · rfl
          · obtain ⟨n, e, h1, h2, h3⟩ := h.jmp i x hx hb hj
            have ho := (same_iff hz hi h1).1 h3
            have ht : toR l.length i x.off = n := by
              unfold toR
              rw [if_neg (by omega), if_neg (by omega), e]
            rw [ht, Int.toNat_natCast, h2, ho]
            have : decide ((n : Int) < 0) = false := decide_eq_false (by omega)
            rw [this]
            simp

end Go.Proofs.YtdchmelgaljpfaaGreat
set_option linter.unusedSimpArgs false
set_option linter.unusedVariables false
namespace Go.Proofs.YtdchmelgaljpfaaGreat
open Go.RowKit

/-! ### slots that are kept -/
theorem len_le_of_sub : ∀ {a b : List Int}, a.Nodup → (∀ x ∈ a, x ∈ b) → a.length ≤ b.length
  | [], b, _, _ => Nat.zero_le _
  | y :: a, b, hn, hs => by
    rw [List.nodup_cons] at hn
    have hy := hs y (List.mem_cons_self ..)
    have := len_le_of_sub (a := a) (b := b.erase y) hn.2 (fun x hx => by
      have hne : x ≠ y := fun e => hn.1 (by rw [← e]; exact hx)
      exact (List.mem_erase_of_ne hne).2 (hs x (List.mem_cons_of_mem _ hx)))
    rw [List.length_erase_of_mem hy] at this
    have := List.length_pos_of_mem hy
    simp only [List.length_cons]
    omega
theorem rising_nodup {a : List Int} (h : a.Pairwise (· < ·)) : a.Nodup := h.imp (fun h e => by omega)

/-! ### rows without jumps and calls -/
theorem sec_none : ∀ {l : List In}, (∀ x ∈ l, x.op ≠ 24) → ∀ i, i < l.length → (secG false l)[i]? = some false
  | [], _, i, h => by simp at h
  | x :: l, hx, 0, _ => rfl
  | x :: l, hx, i + 1, h => by
    have h24 : (x.op == 24) = false := by simpa using hx x (List.mem_cons_self ..)
    simp only [secG, List.getElem?_cons_succ, h24, Bool.false_and]
    exact sec_none (fun y hy => hx y (List.mem_cons_of_mem _ hy)) i (by simpa using h)
/-- slots that go on at the next one, and an exit as the last -/
structure Plain (l : List In) : Prop where
  one : 1 ≤ l.length
  most : l.length ≤ 4096
  mid : ∀ (i : Nat) (x : In), l[i]? = some x → i + 1 < l.length → x.op ≠ 24 ∧ isCallB x = false ∧ isJumpB x = false ∧ x.op ≠ 149 ∧ x.op ≠ 5 ∧ wrongC l i x = 0
  last : ∀ x, l[l.length - 1]? = some x → x.op = 149 ∧ wrongC l (l.length - 1) x = 0
theorem Plain.any {l : List In} (h : Plain l) {i : Nat} {x : In} (hx : l[i]? = some x) : x.op ≠ 24 ∧ isCallB x = false ∧ isJumpB x = false ∧ wrongC l i x = 0 := by
  have hi := (List.getElem?_eq_some_iff.1 hx).1
  by_cases e : i + 1 < l.length
  · obtain ⟨a, b, c, _, _, d⟩ := h.mid i x hx e
    exact ⟨a, b, c, d⟩
  · obtain rfl : i = l.length - 1 := by omega
    obtain ⟨a, b⟩ := h.last x hx
    refine ⟨by omega, ?_, exit_nojump a, b⟩
    unfold isCallB
    rw [a]
    rfl
theorem Plain.sec {l : List In} (h : Plain l) : ∀ i, i < l.length → (secL l)[i]? = some false := sec_none fun x hx => by
  obtain ⟨i, hi⟩ := List.mem_iff_getElem?.1 hx
  exact (h.any hi).1
theorem Plain.begins {l : List In} (h : Plain l) : ∀ b ∈ beginsL l, b = 0 := fun b hb => by
  have hz : slotsC l = 0 := slots_of h.one h.most (fun i x hx _ => (h.any hx).2.2.2)
  rcases ((begins_ok hz).2.1 b).1 hb with h0 | ⟨i, _, h0⟩
  · exact h0
  · exfalso
    unfold tgtC at h0
    cases hx : l[i]? with
    | none => rw [hx] at h0; cases h0
    | some x =>
      rw [hx] at h0
      have hc := (h.any hx).2.1
      cases hs : (secL l)[i]? with
      | none => rw [hs] at h0; cases h0
      | some b =>
        rw [hs] at h0
        cases b
        · simp [hc] at h0
        · cases h0
theorem Plain.va {l : List In} (h : Plain l) : Va l := by
  have hb := h.begins
  have hsame : ∀ i m, SameP l i m := fun i m b hbm => by rw [hb b hbm]; omega
  refine ⟨h.one, h.most, fun i x hx _ => (h.any hx).2.2.2, ?_, fun i x hx hs h149 h5 => ?_, fun i x hx hs hj => ?_⟩
  · have hz : slotsC l = 0 := slots_of h.one h.most (fun i x hx _ => (h.any hx).2.2.2)
    have := len_le_of_sub (b := [0]) (rising_nodup (begins_ok hz).1) (fun b hbm => by rw [hb b hbm]; simp)
    simp at this
    omega
  · have hi := (List.getElem?_eq_some_iff.1 hx).1
    have hlt : i + 1 < l.length := by
      rcases Nat.lt_or_ge (i + 1) l.length with e | e
      · exact e
      · obtain rfl : i = l.length - 1 := by omega
        exact absurd (h.last x hx).1 h149
    have hbe : behI i x = i + 1 := by unfold behI; rw [if_neg (h.any hx).1]
    rw [hbe]
    exact ⟨hlt, h.sec _ hlt, hsame _ _⟩
  · rw [(h.any hx).2.2.1] at hj
    cases hj
theorem Plain.check {l : List In} (h : Plain l) : checkI l = 0 := check_va h.va
theorem Plain.next {l : List In} (h : Plain l) {i : Nat} {x : In} (hx : l[i]? = some x) (hi : i + 1 < l.length) : nextC i x = [(i : Int) + 1] := by
  obtain ⟨a, b, c, d, e, _⟩ := h.mid i x hx hi
  have e1 : (x.op == 149) = false := by simpa using d
  have e2 : (x.op == 24) = false := by simpa using a
  unfold nextC
  rw [e1, e2, c]
  rfl
theorem Plain.rch {l : List In} (h : Plain l) : ∀ i, i < l.length → Rch l i := by
  intro i
  induction i with
  | zero => exact fun _ => .zero
  | succ i ih =>
    intro hi
    obtain ⟨x, hx⟩ : ∃ x, l[i]? = some x := ⟨_, List.getElem?_eq_getElem (by omega)⟩
    refine .step (ih (by omega)) ?_
    rw [succ_at hx, h.next hx hi]
    simp
theorem Plain.rchL {l : List In} (h : Plain l) {i : Nat} (hi : i < l.length) : (rchL l)[i]? = some true := by
  rw [rchL_get hi]
  exact congrArg some (@decide_eq_true _ (Classical.propDecidable _) (h.rch i hi))

end Go.Proofs.YtdchmelgaljpfaaGreat

set_option linter.unusedSimpArgs false
set_option linter.unusedVariables false
namespace Go.Proofs.YtdchmelgaljpfaaGreat
open Go.RowKit

/-! ### a program without jumps: what is known at each slot (plain) -/
def chainR (l : List In) : Nat → KR
  | 0 => noneR
  | i + 1 => (flwL l).beh i (chainR l i)
theorem plain_first {l : List In} (hp : Plain l) {i : Nat} (h : (flwL l).first i) : i = 0 := by
  obtain ⟨⟨p, hpm, e⟩, _⟩ := h
  obtain ⟨k, hk⟩ := List.getElem?_of_mem hpm
  obtain ⟨hkb, rfl⟩ := parts_at hk
  have hb := hp.begins ((beginsL l)[k]) (List.getElem_mem hkb)
  have : (partAt (beginsL l) l.length k).1 = (beginsL l)[k] := by
    unfold partAt
    show (beginsL l).getD k 0 = _
    rw [List.getD_eq_getElem?_getD, List.getElem?_eq_getElem hkb]
    rfl
  rw [this, hb] at e
  omega
theorem plain_next {l : List In} (hp : Plain l) {i : Nat} (hi : i < l.length) : (flwL l).next i = if i + 1 < l.length then [i + 1] else [] := by
  obtain ⟨x, hx⟩ : ∃ x, l[i]? = some x := ⟨_, List.getElem?_eq_getElem hi⟩
  rw [flw_next hx]
  by_cases h : i + 1 < l.length
  · rw [if_pos h, hp.next hx h]
    simp
  · rw [if_neg h]
    obtain rfl : i = l.length - 1 := by omega
    have := (hp.last x hx).1
    unfold nextC
    simp [this]
theorem plain_rows {l : List In} (hp : Plain l) {V : List (Option KR)} (h : KIs l V) : ∀ i, i < l.length → V[i]? = some (some (chainR l i)) := by
  have hU : (flwL l).Sol ((List.range l.length).map fun i => some (chainR l i)) := by
    refine ⟨by rw [List.length_map, List.length_range]; rfl, fun i hi => ?_, fun i r hi j hj => ?_⟩
    · obtain rfl := plain_first hp hi
      rw [List.getElem?_map, List.getElem?_range (by have := hp.one; omega)]
      rfl
    · have hil : i < l.length := by
        have := (List.getElem?_eq_some_iff.1 hi).1
        simpa using this
      rw [plain_next hp hil] at hj
      split at hj
      · rename_i hn
        obtain rfl := List.mem_singleton.1 hj
        rw [List.getElem?_map, List.getElem?_range hil] at hi
        have hi : some (some (chainR l i)) = some (some r) := hi
        cases hi
        refine ⟨some (chainR l (i + 1)), ?_, LeR.refl _⟩
        rw [List.getElem?_map, List.getElem?_range hn]
        rfl
      · cases hj
  intro i
  induction i with
  | zero =>
    intro h0
    exact h.sol.st 0 ⟨part_begin (t := 0) (((begins_ok (check_parts hp.check).1).2.1 0).2 (.inl rfl)), .zero⟩
  | succ i ih =>
    intro hi
    have h1 := ih (by omega)
    obtain ⟨v, hv, hle⟩ := h.sol.step i _ h1 (i + 1) (by rw [plain_next hp (by omega), if_pos hi]; simp)
    have hg : ((List.range l.length).map fun i => some (chainR l i))[i + 1]? = some (some (chainR l (i + 1))) := by
      rw [List.getElem?_map, List.getElem?_range hi]
      rfl
    have h2 := h.b.top.top _ hU (i + 1) _ _ hg hv
    rw [hv, LeO.antisymm hle h2]
    rfl

end Go.Proofs.YtdchmelgaljpfaaGreat

set_option linter.unusedSimpArgs false
set_option linter.unusedVariables false
namespace Go.Proofs.YtdchmelgaljpfaaGreat
open Go.RowKit

/-! ### operations on registers that are all known (plain) -/
def rowS (rs : List Nat) : KR := rs.map some ++ List.replicate 7 none
def sIn (x : In) : In := ⟨x.op, x.dst % 4, if xB x = true then x.src % 4 else 0, 0, if xB x = true then 0 else x.imm⟩
def sOk (x : In) : Bool := (decide (x.op % 8 = 4) || decide (x.op % 8 = 7)) && (decide (x.op / 16 ≤ 12) && decide (x.op / 16 ≠ 8))
def sVal (x : In) (rs : List Nat) : Nat := doN (x.op / 16).toNat (decide (x.op % 8 = 7)) (rs.getD (x.dst % 4).toNat 0) (if xB x = true then rs.getD (x.src % 4).toNat 0 else signN x.imm)
theorem sOk_iff {x : In} (h : sOk x = true) : (clsI x = 4 ∨ clsI x = 7) ∧ codeI x ≤ 12 ∧ codeI x ≠ 8 := by
  unfold sOk at h
  unfold clsI codeI
  simp at h
  exact ⟨h.1, h.2.1, h.2.2⟩
theorem sIn_ok {x : In} (hx : InOk x) : InOk (sIn x) := by
  have h1 := hx.dst
  have h2 := hx.src
  have h3 := hx.imm
  refine ⟨hx.op, ?_, ?_, by show (-32768 : Int) ≤ 0 ∧ (0 : Int) ≤ 32767; omega, ?_⟩
  · show 0 ≤ x.dst % 4 ∧ x.dst % 4 ≤ 255; omega
  · show 0 ≤ (if xB x = true then x.src % 4 else 0) ∧ (if xB x = true then x.src % 4 else 0) ≤ 255
    split <;> omega
  · show -2147483648 ≤ (if xB x = true then 0 else x.imm) ∧ (if xB x = true then 0 else x.imm) ≤ 2147483647
    split <;> omega
theorem sIn_right {x : In} (h : sOk x = true) : rightB (sIn x) = true := by
  obtain ⟨hc, h12, h8⟩ := sOk_iff h
  have hk : knownB (sIn x) = true := by
    unfold knownB
    rw [if_pos (show clsI (sIn x) = 4 ∨ clsI (sIn x) = 7 from hc)]
    unfold arithB
    rw [if_pos (show (sIn x).off = 0 from rfl), if_neg (show ¬ codeI (sIn x) = 8 from h8), if_neg (by show ¬ codeI x = 13; omega), if_neg (by show ¬ 13 < codeI x; omega)]
    unfold operandB
    have e : xB (sIn x) = xB x := rfl
    rw [e]
    by_cases hb : xB x = true
    · rw [if_pos hb]; simp [sIn, hb]
    · rw [if_neg hb]; simp [sIn, hb]
  unfold rightB
  rw [hk]
  have h1 : (sIn x).dst ≤ 10 := by show x.dst % 4 ≤ 10; omega
  have h2 : (sIn x).src ≤ 10 := by show (if xB x = true then x.src % 4 else 0) ≤ 10; split <;> omega
  simp [h1, h2]
theorem rowS_get {rs : List Nat} (h : rs.length = 4) {i : Nat} (hi : i < 4) : (rowS rs)[i]? = some (some (rs.getD i 0)) := by
  unfold rowS
  rw [List.getElem?_append_left (by rw [List.length_map]; omega), List.getElem?_map, List.getD_eq_getElem?_getD, List.getElem?_eq_getElem (by omega)]
  rfl
theorem rowS_set {rs : List Nat} (h : rs.length = 4) {i : Nat} (hi : i < 4) (v : Nat) : (rowS rs).set i (some v) = rowS (rs.set i v) := by
  unfold rowS
  rw [List.set_append_left _ _ (by rw [List.length_map]; omega), List.map_set]
theorem sIn_res {x : In} {rs : List Nat} (h : sOk x = true) (hl : rs.length = 4) : resR (sIn x) (rowS rs) = some (sVal x rs) := by
  obtain ⟨hc, h12, h8⟩ := sOk_iff h
  have ec : codeI (sIn x) = codeI x := rfl
  have eb : xB (sIn x) = xB x := rfl
  have ed : (sIn x).dst.toNat = (x.dst % 4).toNat := rfl
  have hd : (rowS rs).getD (x.dst % 4).toNat none = some (rs.getD (x.dst % 4).toNat 0) := by
    rw [List.getD_eq_getElem?_getD, rowS_get hl (by omega)]; rfl
  have hs : (rowS rs).getD (x.src % 4).toNat none = some (rs.getD (x.src % 4).toNat 0) := by
    rw [List.getD_eq_getElem?_getD, rowS_get hl (by omega)]; rfl
  have hB : opB (sIn x) (rowS rs) = some (if xB x = true then rs.getD (x.src % 4).toNat 0 else signN x.imm) := by
    unfold opB
    rw [eb, ec]
    by_cases hb : xB x = true
    · rw [if_pos (by simp [hb]; omega), if_pos hb]
      have e : (sIn x).src = x.src % 4 := by show (if xB x = true then x.src % 4 else 0) = _; rw [if_pos hb]
      rw [e]; exact hs
    · rw [if_neg (by simp [hb]), if_neg hb]
      have e : (sIn x).imm = x.imm := by show (if xB x = true then 0 else x.imm) = _; rw [if_neg hb]
      rw [e]
  have hA : ∃ u, opA (sIn x) (rowS rs) = some u ∧ (codeI x = 11 ∨ u = rs.getD (x.dst % 4).toNat 0) := by
    unfold opA
    rw [ec, ed]
    by_cases h11 : codeI x = 11
    · rw [if_pos h11]; exact ⟨0, rfl, .inl h11⟩
    · rw [if_neg h11]; exact ⟨_, hd, .inr rfl⟩
  obtain ⟨u, hu, hu2⟩ := hA
  unfold resR
  rw [hu, hB]
  show some (resV (sIn x) u _) = some (sVal x rs)
  unfold resV sVal codeN
  rw [ec, if_neg (by omega)]
  have ew : wideB (sIn x) = decide (x.op % 8 = 7) := rfl
  rw [ew]
  rcases hu2 with h11 | rfl
  · have : (x.op / 16).toNat = 11 := by unfold codeI at h11; omega
    show some (doN (x.op / 16).toNat _ _ _) = _
    rw [this]
    rfl
  · rfl
theorem sIn_beh {x y : In} {rs : List Nat} (h : sOk x = true) (hl : rs.length = 4) : behR (sIn x) y (rowS rs) = rowS (rs.set (x.dst % 4).toNat (sVal x rs)) := by
  obtain ⟨hc, h12, h8⟩ := sOk_iff h
  have hr := sIn_right h
  have h24 : ¬ (sIn x).op = 24 := fun e => by
    have e : x.op = 24 := e
    unfold clsI at hc
    rw [e] at hc
    omega
  unfold behR
  rw [if_neg h24, if_pos (show clsI (sIn x) = 4 ∨ clsI (sIn x) = 7 from hc), sIn_res h hl, writes_arith hr hc]
  show (clearR (bitN (sIn x).dst) (rowS rs)).set (x.dst % 4).toNat (some (sVal x rs)) = _
  have hd : (sIn x).dst.toNat = (x.dst % 4).toNat := rfl
  rw [← rowS_set hl (by omega)]
  apply List.ext_getElem?
  intro j
  rw [List.getElem?_set, List.getElem?_set, clearR_len]
  by_cases e : (x.dst % 4).toNat = j
  · rw [if_pos e, if_pos e]
  · rw [if_neg e, if_neg e]
    unfold clearR
    rw [List.getElem?_mapIdx]
    cases (rowS rs)[j]? with
    | none => rfl
    | some v =>
      show some (clearF _ j v) = some v
      unfold clearF bitN
      rw [Nat.testBit_two_pow, hd]
      simp [e]

end Go.Proofs.YtdchmelgaljpfaaGreat

set_option linter.unusedSimpArgs false
set_option linter.unusedVariables false
namespace Go.Proofs.YtdchmelgaljpfaaGreat
open Go.RowKit

/-! ### the program that is straight (plain) -/
theorem arith_plain (l : List In) (i : Nat) {x : In} (hr : rightB x = true) (hc : clsI x = 4 ∨ clsI x = 7) (hd : x.dst < 10) : x.op ≠ 24 ∧ isCallB x = false ∧ isJumpB x = false ∧ x.op ≠ 149 ∧ x.op ≠ 5 ∧ wrongC l i x = 0 := by
  have hc' : x.op % 8 = 4 ∨ x.op % 8 = 7 := hc
  have h24 : (x.op == 24) = false := by simp; omega
  have h133 : (x.op == 133) = false := by simp; omega
  have hcall : isCallB x = false := by unfold isCallB; rw [h24, h133]; rfl
  obtain ⟨h1, h2⟩ := rightB_regs hr
  refine ⟨by omega, hcall, ?_, by omega, by omega, ?_⟩
  · unfold isJumpB
    have e5 : (clsI x == 5) = false := by simp; omega
    have e6 : (clsI x == 6) = false := by simp; omega
    simp [e5, e6]
  · unfold wrongC restC
    have hk := right_known hr
    have e1 : decide (10 < x.dst) = false := decide_eq_false (by omega)
    have e2 : decide (10 < x.src) = false := decide_eq_false (by omega)
    have e3 : (x.dst == 10) = false := by simp; omega
    rw [hk, e1, e2, e3, h24, hcall, h133]
    rfl
def movF (f : List Int) (i : Nat) : In := ⟨183, i, 0, 0, f.getD i 0⟩
def stP (f : List Int) (l : List In) : List In := (List.range 4).map (movF f) ++ ((l.filter sOk).map sIn ++ [⟨149, 0, 0, 0, 0⟩])
theorem stP_len (f : List Int) (l : List In) : (stP f l).length = 4 + ((l.filter sOk).length + 1) := by simp [stP]
theorem stP_mov (f : List Int) (l : List In) {i : Nat} (h : i < 4) : (stP f l)[i]? = some (movF f i) := by
  unfold stP
  rw [List.getElem?_append_left (by simpa using h), List.getElem?_map, List.getElem?_range h]
  rfl
theorem stP_op (f : List Int) (l : List In) {i : Nat} {x : In} (h : (l.filter sOk)[i]? = some x) : (stP f l)[4 + i]? = some (sIn x) := by
  have hi := (List.getElem?_eq_some_iff.1 h).1
  unfold stP
  rw [List.getElem?_append_right (by simp), List.length_map, List.length_range, Nat.add_sub_cancel_left, List.getElem?_append_left (by simpa using hi), List.getElem?_map, h]
  rfl
theorem stP_end (f : List Int) (l : List In) : (stP f l)[4 + (l.filter sOk).length]? = some ⟨149, 0, 0, 0, 0⟩ := by
  unfold stP
  rw [List.getElem?_append_right (by simp), List.length_map, List.length_range, Nat.add_sub_cancel_left, List.getElem?_append_right (by simp), List.length_map, Nat.sub_self]
  rfl
theorem mov_right (f : List Int) {i : Nat} (h : i < 4) : rightB (movF f i) = true ∧ clsI (movF f i) = 7 ∧ (movF f i).dst < 10 := by
  refine ⟨?_, rfl, by show (i : Int) < 10; omega⟩
  unfold rightB
  have h1 : decide ((movF f i).dst ≤ 10) = true := decide_eq_true (by show (i : Int) ≤ 10; omega)
  rw [h1]
  rfl
theorem stP_plain {f : List Int} {l : List In} (hl : l.length ≤ 60) : Plain (stP f l) where
  one := by rw [stP_len]; omega
  most := by rw [stP_len]; have := List.length_filter_le sOk l; omega
  mid := fun i x hx hi => by
    rw [stP_len] at hi
    by_cases h4 : i < 4
    · rw [stP_mov f l h4] at hx
      cases hx
      obtain ⟨a, b, c⟩ := mov_right f h4
      exact arith_plain _ _ a (.inr b) c
    · obtain ⟨j, rfl⟩ : ∃ j, i = 4 + j := ⟨i - 4, by omega⟩
      obtain ⟨y, hy⟩ : ∃ y, (l.filter sOk)[j]? = some y := ⟨_, List.getElem?_eq_getElem (by omega)⟩
      rw [stP_op f l hy] at hx
      cases hx
      have hs : sOk y = true := (List.mem_filter.1 (List.mem_of_getElem? hy)).2
      exact arith_plain _ _ (sIn_right hs) (sOk_iff hs).1 (by show y.dst % 4 < 10; omega)
  last := fun x hx => by
    rw [stP_len, show 4 + ((l.filter sOk).length + 1) - 1 = 4 + (l.filter sOk).length by omega, stP_end] at hx
    cases hx
    exact ⟨rfl, rfl⟩
/-- the registers behind so many operations -/
def regsN (f : List Int) (ops : List In) : Nat → List Nat
  | 0 => f.map signN
  | j + 1 => match ops[j]? with
    | some x => (regsN f ops j).set (x.dst % 4).toNat (sVal x (regsN f ops j))
    | none => regsN f ops j
theorem regsN_len {f : List Int} (hf : f.length = 4) (ops : List In) : ∀ j, (regsN f ops j).length = 4
  | 0 => by simp [regsN, hf]
  | j + 1 => by
    have := regsN_len hf ops j
    unfold regsN
    split
    · rw [List.length_set]; exact this
    · exact this
theorem mov_beh {f : List Int} {y : In} {r : KR} {i : Nat} (h : i < 4) (hl : r.length = 11) (hi : r[i]? = some none) : behR (movF f i) y r = r.set i (some (signN (f.getD i 0))) := by
  obtain ⟨a, b, c⟩ := mov_right f h
  have hres : resR (movF f i) r = some (signN (f.getD i 0)) := rfl
  unfold behR
  rw [if_neg (show ¬ (movF f i).op = 24 by show ¬ (183 : Int) = 24; decide), if_pos (.inr b), hres, writes_arith a (.inr b)]
  show (clearR (bitN (i : Int)) r).set ((i : Int)).toNat (some (signN (f.getD i 0))) = _
  apply List.ext_getElem?
  intro j
  rw [Int.toNat_natCast, List.getElem?_set, List.getElem?_set, clearR_len]
  by_cases e : i = j
  · rw [if_pos e, if_pos e]
  · rw [if_neg e, if_neg e]
    unfold clearR
    rw [List.getElem?_mapIdx]
    cases r[j]? with
    | none => rfl
    | some v =>
      show some (clearF _ j v) = some v
      unfold clearF bitN
      rw [Int.toNat_natCast, Nat.testBit_two_pow]
      simp [e]
theorem chain_ops {f : List Int} {l : List In} (hf : f.length = 4) (h4 : chainR (stP f l) 4 = rowS (f.map signN)) : ∀ j, j ≤ (l.filter sOk).length → chainR (stP f l) (4 + j) = rowS (regsN f (l.filter sOk) j)
  | 0, _ => h4
  | j + 1, hj => by
    obtain ⟨x, hx⟩ : ∃ x, (l.filter sOk)[j]? = some x := ⟨_, List.getElem?_eq_getElem (by omega)⟩
    have hs : sOk x = true := (List.mem_filter.1 (List.mem_of_getElem? hx)).2
    show (flwL (stP f l)).beh (4 + j) (chainR (stP f l) (4 + j)) = _
    rw [chain_ops hf h4 j (by omega), flw_beh (stP_op f l hx) (sIn_right hs), sIn_beh hs (regsN_len hf _ j)]
    show _ = rowS (match (l.filter sOk)[j]? with
      | some x => (regsN f (l.filter sOk) j).set (x.dst % 4).toNat (sVal x (regsN f (l.filter sOk) j))
      | none => regsN f (l.filter sOk) j)
    rw [hx]
theorem chain_four {f : List Int} (l : List In) (hf : f.length = 4) : chainR (stP f l) 4 = rowS (f.map signN) := by
  have hb : ∀ i, i < 4 → ∀ r : KR, r.length = 11 → r[i]? = some none → (flwL (stP f l)).beh i r = r.set i (some (signN (f.getD i 0))) := fun i hi r hr h0 => by
    rw [flw_beh (stP_mov f l hi) (mov_right f hi).1, mov_beh hi hr h0]
  match f, hf with
  | [a, b, c, d], _ =>
    show (flwL _).beh 3 ((flwL _).beh 2 ((flwL _).beh 1 ((flwL _).beh 0 noneR))) = _
    rw [hb 0 (by omega) noneR rfl rfl, hb 1 (by omega) _ rfl rfl, hb 2 (by omega) _ rfl rfl, hb 3 (by omega) _ rfl rfl]
    rfl

end Go.Proofs.YtdchmelgaljpfaaGreat

set_option linter.unusedSimpArgs false
set_option linter.unusedVariables false
namespace Go.Proofs.YtdchmelgaljpfaaGreat
open Go.RowKit

/-! ### what the straight program is folded to (plain) -/
theorem st_row {f : List Int} {l : List In} (hf : f.length = 4) (hl : l.length ≤ 60) {V : List (Option KR)} (h : KIs (stP f l) V) {j : Nat} (hj : j ≤ (l.filter sOk).length) : V[4 + j]? = some (some (rowS (regsN f (l.filter sOk) j))) := by
  have := plain_rows (stP_plain hl) h (4 + j) (by rw [stP_len]; omega)
  rw [this, chain_ops hf (chain_four l hf) j hj]
theorem st_fold {f : List Int} {l : List In} (hf : f.length = 4) (hl : l.length ≤ 60) {V : List (Option KR)} (h : KIs (stP f l) V) {j : Nat} {x : In} (hx : (l.filter sOk)[j]? = some x) :
    (foldL (stP f l) V)[4 + j]? = some (if x.op = 183 ∨ x.op = 180 then sIn x else if signN (lowI (sVal x (regsN f (l.filter sOk) j))) = sVal x (regsN f (l.filter sOk) j) then ⟨183, x.dst % 4, 0, 0, lowI (sVal x (regsN f (l.filter sOk) j))⟩ else sIn x) := by
  have hj := (List.getElem?_eq_some_iff.1 hx).1
  have hs : sOk x = true := (List.mem_filter.1 (List.mem_of_getElem? hx)).2
  rw [foldL_get (stP_op f l hx) (st_row hf hl h (by omega))]
  obtain ⟨hc, _, _⟩ := sOk_iff hs
  have hc' : x.op % 8 = 4 ∨ x.op % 8 = 7 := hc
  congr 1
  show (if ((x.op % 8 != 4 && x.op % 8 != 7) || x.op == 183 || x.op == 180) = true then sIn x else foldR (sIn x) (resR (sIn x) (rowS (regsN f (l.filter sOk) j)))) = _
  rw [sIn_res hs (regsN_len hf _ j)]
  by_cases hm : x.op = 183 ∨ x.op = 180
  · rw [if_pos hm, if_pos]
    rcases hm with h | h <;> simp [h]
  · rw [if_neg hm, if_neg]
    · rfl
    · simp
      omega
/-- the value that an operation makes is the register's behind it -/
theorem regs_next {f : List Int} {ops : List In} (hf : f.length = 4) {j : Nat} {x : In} (hx : ops[j]? = some x) : (regsN f ops (j + 1)).getD (x.dst % 4).toNat 0 = sVal x (regsN f ops j) := by
  have hl := regsN_len hf ops j
  show (match ops[j]? with
      | some x => (regsN f ops j).set (x.dst % 4).toNat (sVal x (regsN f ops j))
      | none => regsN f ops j).getD _ 0 = _
  rw [hx]
  show ((regsN f ops j).set (x.dst % 4).toNat (sVal x (regsN f ops j))).getD _ 0 = _
  rw [List.getD_eq_getElem?_getD, List.getElem?_set_self (by omega)]
  rfl

end Go.Proofs.YtdchmelgaljpfaaGreat

set_option linter.unusedSimpArgs false
set_option linter.unusedVariables false
namespace Go.Proofs.YtdchmelgaljpfaaGreat
open Go.RowKit

/-! ### the rows of registers as they come (plain) -/
theorem regsN_app (f : List Int) (ops : List In) (x : In) : ∀ k, k ≤ ops.length → regsN f (ops ++ [x]) k = regsN f ops k
  | 0, _ => rfl
  | k + 1, hk => by
    have ih := regsN_app f ops x k (by omega)
    show (match (ops ++ [x])[k]? with
      | some x' => (regsN f (ops ++ [x]) k).set (x'.dst % 4).toNat (sVal x' (regsN f (ops ++ [x]) k))
      | none => regsN f (ops ++ [x]) k) = (match ops[k]? with
      | some x => (regsN f ops k).set (x.dst % 4).toNat (sVal x (regsN f ops k))
      | none => regsN f ops k)
    rw [List.getElem?_append_left (by omega), ih]
theorem regsN_last (f : List Int) (ops : List In) (x : In) : regsN f (ops ++ [x]) (ops.length + 1) = (regsN f ops ops.length).set (x.dst % 4).toNat (sVal x (regsN f ops ops.length)) := by
  show (match (ops ++ [x])[ops.length]? with
      | some x' => (regsN f (ops ++ [x]) ops.length).set (x'.dst % 4).toNat (sVal x' (regsN f (ops ++ [x]) ops.length))
      | none => regsN f (ops ++ [x]) ops.length) = _
  rw [List.getElem?_append_right (Nat.le_refl _), Nat.sub_self, regsN_app f ops x _ (Nat.le_refl _)]
  rfl
def ucells (rs : List Nat) : List Value := rs.map fun (n : Nat) => Value.int .u64 n
def wantR (f : List Int) (ops : List In) : List (List Value) := (List.range ops.length).map fun k => ucells (regsN f ops k)
theorem wantR_app (f : List Int) (ops : List In) (x : In) : wantR f (ops ++ [x]) = wantR f ops ++ [ucells (regsN f ops ops.length)] := by
  unfold wantR
  rw [List.length_append, List.length_singleton, List.range_succ, List.map_append]
  congr 1
  · apply List.map_congr_left
    intro k hk
    rw [regsN_app f ops x k (Nat.le_of_lt (List.mem_range.1 hk))]
  · show [ucells (regsN f (ops ++ [x]) ops.length)] = _
    rw [regsN_app f ops x _ (Nat.le_refl _)]
theorem wantR_len (f : List Int) (ops : List In) : (wantR f ops).length = ops.length := by simp [wantR]
theorem filtS_more {l : List In} {j : Nat} {x : In} (hx : l[j]? = some x) (h : sOk x = true) : (l.take (j + 1)).filter sOk = (l.take j).filter sOk ++ [x] := by
  rw [List.take_add_one, hx, List.filter_append]
  simp [h]
theorem filtS_same {l : List In} {j : Nat} {x : In} (hx : l[j]? = some x) (h : sOk x = false) : (l.take (j + 1)).filter sOk = (l.take j).filter sOk := by
  rw [List.take_add_one, hx, List.filter_append]
  simp [h]

end Go.Proofs.YtdchmelgaljpfaaGreat

set_option linter.unusedSimpArgs false
set_option linter.unusedVariables false
namespace Go.Proofs.YtdchmelgaljpfaaGreat
open Go.RowKit

/-! ### FoldStraight -/
def uA (rs : List Nat) : Array Value := (rs.map fun (n : Nat) => Value.int .u64 n).toArray
def uP (f : List Int) (i : Nat) : List Nat := (List.range 4).map fun k => if k < i then signN (f.getD k 0) else 0
theorem uP_len (f : List Int) (i : Nat) : (uP f i).length = 4 := by simp [uP]
theorem uA_get (rs : List Nat) {i : Nat} (h : i < rs.length) : ∃ n : Int, (uA rs)[i]? = some (.int .u64 n) := by
  unfold uA
  rw [List.getElem?_toArray, List.getElem?_map, List.getElem?_eq_getElem h]
  exact ⟨_, rfl⟩
theorem uA_at {rs : List Nat} {i v : Nat} (h : rs[i]? = some v) : (uA rs)[i]? = some (.int .u64 (v : Nat)) := by
  unfold uA
  rw [List.getElem?_toArray, List.getElem?_map, h]
  rfl
theorem uA_set (rs : List Nat) (i n : Nat) : (uA rs).setIfInBounds i (.int .u64 (n : Nat)) = uA (rs.set i n) := by
  unfold uA
  rw [List.setIfInBounds_toArray, List.map_set]
theorem uP_succ {f : List Int} {i : Nat} {v : Int} (hi : i < 4) (hv : f[i]? = some v) : uP f (i + 1) = (uP f i).set i (signN v) := by
  apply List.ext_getElem?
  intro j
  unfold uP
  rw [List.getElem?_set, List.getElem?_map, List.getElem?_map, List.length_map, List.length_range]
  by_cases e : i = j
  · subst e
    rw [if_pos rfl, if_pos hi, List.getElem?_range hi]
    simp [List.getD_eq_getElem?_getD, hv]
  · rw [if_neg e]
    by_cases hj : j < 4
    · rw [List.getElem?_range hj]
      simp only [Option.map_some]
      have : (j < i + 1) = (j < i) := by simp; omega
      simp only [this]
    · rw [List.getElem?_eq_none (by simpa using hj)]
      rfl
theorem inS_one2 (w : World) (x : In) {n : Nat} (hn : n = w.heap.size) : InS (w.alloc (.cells #[.int .u8 x.op, .int .u8 x.dst, .int .u8 x.src, .int .i16 x.off, .int .i32 x.imm] 75)) (.slice (some ⟨n, 0, none⟩) 1 1) [x] := by
  subst hn
  exact inS_new w [x] (by simp)
/-- what the loop holds: the program, the rows, the places, the registers; apart from one another; and a block of its own -/
structure StX (w wr : World) (gU gX : Nat) (pv wv tv : Value) (P : List In) (W T : List (List Value)) (r : List Nat) (xs : Array Value) : Prop where
  hp : InS wr pv P
  hw : Sl wr 72 4 wv W
  ht : Sl wr 5 1 tv T
  hu : Blk wr gU 72 (uA r)
  hx : Blk wr gX 75 xs
  ux : gU < gX
  o1 : ∀ g, (pv.ownBlock = some g ∨ wv.ownBlock = some g ∨ tv.ownBlock = some g) → gU < g ∧ g ≠ gX
  o2 : ∀ g, pv.ownBlock = some g → wv.ownBlock ≠ some g ∧ tv.ownBlock ≠ some g
  o3 : ∀ g, wv.ownBlock = some g → tv.ownBlock ≠ some g
  hk : Kept (fun _ => False) w wr
theorem StX.pushW {w wr w' : World} {gU gX : Nat} {pv wv tv v : Value} {P : List In} {W W' T : List (List Value)} {r : List Nat} {xs : Array Value} (h : StX w wr gU gX pv wv tv P W T r xs) (hw : ∀ g, wv.ownBlock = some g → w.heap.size ≤ g)
    (hS : Sl w' 72 4 v W') (hk : Kept (fun k => wv.ownBlock = some k) wr w') (hv : ∀ g, v.ownBlock = some g → wv.ownBlock = some g ∨ wr.heap.size ≤ g) : StX w w' gU gX pv v tv P W' T r xs where
  hp := Sl.kept hk h.hp fun g hg e => (h.o2 g hg).1 e
  hw := hS
  ht := Sl.kept hk h.ht fun g hg e => h.o3 g e hg
  hu := hk.blk (fun e => by have := (h.o1 gU (.inr (.inl e))).1; omega) h.hu
  hx := hk.blk (fun e => (h.o1 gX (.inr (.inl e))).2 rfl) h.hx
  ux := h.ux
  o1 := fun g hg => by
    have hl := h.hx.lt
    rcases hg with hg | hg | hg
    · exact h.o1 g (.inl hg)
    · rcases hv g hg with e | e
      · exact h.o1 g (.inr (.inl e))
      · have := h.ux; omega
    · exact h.o1 g (.inr (.inr hg))
  o2 := fun g hg => ⟨fun e => by
    rcases hv g e with e | e
    · exact (h.o2 g hg).1 e
    · have := Sl.lt h.hp g hg; omega, (h.o2 g hg).2⟩
  o3 := fun g hg e => by
    rcases hv g hg with e' | e'
    · exact h.o3 g e' e
    · have := Sl.lt h.ht g e; omega
  hk := h.hk.trans hk (fun g hg e => by have := hw g e; omega)
theorem StX.pushT {w wr w' : World} {gU gX : Nat} {pv wv tv v : Value} {P : List In} {W T T' : List (List Value)} {r : List Nat} {xs : Array Value} (h : StX w wr gU gX pv wv tv P W T r xs) (hw : ∀ g, tv.ownBlock = some g → w.heap.size ≤ g)
    (hS : Sl w' 5 1 v T') (hk : Kept (fun k => tv.ownBlock = some k) wr w') (hv : ∀ g, v.ownBlock = some g → tv.ownBlock = some g ∨ wr.heap.size ≤ g) : StX w w' gU gX pv wv v P W T' r xs where
  hp := Sl.kept hk h.hp fun g hg e => (h.o2 g hg).2 e
  hw := Sl.kept hk h.hw fun g hg e => h.o3 g hg e
  ht := hS
  hu := hk.blk (fun e => by have := (h.o1 gU (.inr (.inr e))).1; omega) h.hu
  hx := hk.blk (fun e => (h.o1 gX (.inr (.inr e))).2 rfl) h.hx
  ux := h.ux
  o1 := fun g hg => by
    have hl := h.hx.lt
    rcases hg with hg | hg | hg
    · exact h.o1 g (.inl hg)
    · exact h.o1 g (.inr (.inl hg))
    · rcases hv g hg with e | e
      · exact h.o1 g (.inr (.inr e))
      · have := h.ux; omega
  o2 := fun g hg => ⟨(h.o2 g hg).1, fun e => by
    rcases hv g e with e | e
    · exact (h.o2 g hg).2 e
    · have := Sl.lt h.hp g hg; omega⟩
  o3 := fun g hg e => by
    rcases hv g e with e' | e'
    · exact h.o3 g hg e'
    · have := Sl.lt h.hw g hg; omega
  hk := h.hk.trans hk (fun g hg e => by have := hw g e; omega)
theorem StX.pushP {w wr w' : World} {gU gX : Nat} {pv wv tv v : Value} {P P' : List In} {W T : List (List Value)} {r : List Nat} {xs : Array Value} (h : StX w wr gU gX pv wv tv P W T r xs) (hw : ∀ g, pv.ownBlock = some g → w.heap.size ≤ g)
    (hS : InS w' v P') (hk : Kept (fun k => pv.ownBlock = some k) wr w') (hv : ∀ g, v.ownBlock = some g → pv.ownBlock = some g ∨ wr.heap.size ≤ g) : StX w w' gU gX v wv tv P' W T r xs where
  hp := hS
  hw := Sl.kept hk h.hw fun g hg e => (h.o2 g e).1 hg
  ht := Sl.kept hk h.ht fun g hg e => (h.o2 g e).2 hg
  hu := hk.blk (fun e => by have := (h.o1 gU (.inl e)).1; omega) h.hu
  hx := hk.blk (fun e => (h.o1 gX (.inl e)).2 rfl) h.hx
  ux := h.ux
  o1 := fun g hg => by
    have hl := h.hx.lt
    rcases hg with hg | hg | hg
    · rcases hv g hg with e | e
      · exact h.o1 g (.inl e)
      · have := h.ux; omega
    · exact h.o1 g (.inr (.inl hg))
    · exact h.o1 g (.inr (.inr hg))
  o2 := fun g hg => by
    rcases hv g hg with e | e
    · exact h.o2 g e
    · exact ⟨fun e' => by have := Sl.lt h.hw g e'; omega, fun e' => by have := Sl.lt h.ht g e'; omega⟩
  o3 := h.o3
  hk := h.hk.trans hk (fun g hg e => by have := hw g e; omega)
theorem StX.kept {w wr w' : World} {gU gX : Nat} {pv wv tv : Value} {P : List In} {W T : List (List Value)} {r : List Nat} {xs : Array Value} (h : StX w wr gU gX pv wv tv P W T r xs) (hk : Kept (fun _ => False) wr w') : StX w w' gU gX pv wv tv P W T r xs :=
  ⟨Sl.kept hk h.hp (fun _ _ e => e), Sl.kept hk h.hw (fun _ _ e => e), Sl.kept hk h.ht (fun _ _ e => e), hk.blk id h.hu, hk.blk id h.hx, h.ux, h.o1, h.o2, h.o3, h.hk.trans hk (fun _ _ e => e)⟩
theorem StX.alloc {w wr : World} {gU gX : Nat} {pv wv tv : Value} {P : List In} {W T : List (List Value)} {r : List Nat} {xs : Array Value} (h : StX w wr gU gX pv wv tv P W T r xs) (o : Obj) : StX w (wr.alloc o) gU gX pv wv tv P W T r xs := h.kept ((Kept.refl _ wr).alloc o)
theorem StX.setU {w wr : World} {gU gX : Nat} {pv wv tv : Value} {P : List In} {W T : List (List Value)} {r : List Nat} {xs : Array Value} (h : StX w wr gU gX pv wv tv P W T r xs) (hw : w.heap.size ≤ gU) (i v : Nat) : StX w (wr.setCell ⟨gU, i, none⟩ (.int .u64 (v : Nat))) gU gX pv wv tv P W T (r.set i v) xs where
  hp := Sl.far h.hp (fun e => by have := (h.o1 gU (.inl e)).1; omega) _
  hw := Sl.far h.hw (fun e => by have := (h.o1 gU (.inr (.inl e))).1; omega) _
  ht := Sl.far h.ht (fun e => by have := (h.o1 gU (.inr (.inr e))).1; omega) _
  hu := by have := h.hu.set_ i (.int .u64 (v : Nat)); rw [uA_set] at this; exact this
  hx := h.hx.far (by have := h.ux; show gX ≠ gU; omega) _
  ux := h.ux
  o1 := h.o1
  o2 := h.o2
  o3 := h.o3
  hk := h.hk.setCell (fun e => by have e : gU < w.heap.size := e; omega) _
theorem do_sok {k : Int} (h0 : 0 ≤ k) (h12 : ¬ 12 < k) (h8 : ¬ k = 8) (wd : Bool) (a b : Nat) (W : World) (ha : a < 18446744073709551616) (hb : b < 18446744073709551616) :
    Calls Tryz.prog 14 #[.int .i64 k, .bool wd, .int .u64 (a : Nat), .int .u64 (b : Nat)] W fun e w' => e = .returned (.tuple #[.int .u64 ((doN k.toNat wd a b : Nat) : Int), .bool true]) ∧ Kept (fun _ => False) W w' := by
  have hks : k = 0 ∨ k = 1 ∨ k = 2 ∨ k = 3 ∨ k = 4 ∨ k = 5 ∨ k = 6 ∨ k = 7 ∨ k = 9 ∨ k = 10 ∨ k = 11 ∨ k = 12 := by omega
  clear h0 h12 h8
  rcases hks with rfl | rfl | rfl | rfl | rfl | rfl | rfl | rfl | rfl | rfl | rfl | rfl
  · exact do_0 wd a b W ha hb
  · exact do_1 wd a b W ha hb
  · exact do_2 wd a b W ha hb
  · exact do_3 wd a b W ha hb
  · exact do_4 wd a b W ha hb
  · exact do_5 wd a b W ha hb
  · exact do_6 wd a b W ha hb
  · exact do_7 wd a b W ha hb
  · exact do_9 wd a b W ha hb
  · exact do_10 wd a b W ha hb
  · exact do_11 wd a b W ha hb
  · exact do_12 wd a b W ha hb
theorem getD_lt {r : List Nat} (h : ∀ v ∈ r, v < 18446744073709551616) (i : Nat) : r.getD i 0 < 18446744073709551616 := by
  rw [List.getD_eq_getElem?_getD]
  cases hv : r[i]? with
  | none => exact Nat.zero_lt_succ _
  | some v => exact h v (List.mem_of_getElem? hv)
theorem regs_lt (f : List Int) (ops : List In) : ∀ j, ∀ v ∈ regsN f ops j, v < 18446744073709551616
  | 0, v, hv => by
    obtain ⟨n, _, rfl⟩ := List.mem_map.1 hv
    exact signN_lt n
  | j + 1, v, hv => by
    have ih := regs_lt f ops j
    unfold regsN at hv
    split at hv
    · rcases List.mem_or_eq_of_mem_set hv with h | rfl
      · exact ih v h
      · refine doN_lt _ _ (getD_lt ih _) ?_
        split
        · exact getD_lt ih _
        · exact signN_lt _
    · exact ih v hv
theorem xB_iff (x : In) : xB x = decide (x.op / 8 % 2 = 1) := by
  unfold xB
  exact decide_eq_decide.2 (by omega)
theorem sIn_reg {x : In} (h : x.op / 8 % 2 = 1) : sIn x = ⟨x.op, x.dst % 4, x.src % 4, 0, 0⟩ := by
  have : xB x = true := by rw [xB_iff]; exact decide_eq_true h
  unfold sIn
  simp [this]
theorem sIn_imm {x : In} (h : ¬ x.op / 8 % 2 = 1) : sIn x = ⟨x.op, x.dst % 4, 0, 0, x.imm⟩ := by
  have : xB x = false := by rw [xB_iff]; exact decide_eq_false h
  unfold sIn
  simp [this]
theorem getD_some {r : List Nat} {i v : Nat} (h : r[i]? = some v) : r.getD i 0 = v := by rw [List.getD_eq_getElem?_getD, h]; rfl
theorem sVal_reg {x : In} {r : List Nat} {a b : Nat} (h : x.op / 8 % 2 = 1) (ha : r[(x.dst % 4).toNat]? = some a) (hb : r[(x.src % 4).toNat]? = some b) : sVal x r = doN (x.op / 16).toNat (decide (x.op % 8 = 7)) a b := by
  have : xB x = true := by rw [xB_iff]; exact decide_eq_true h
  unfold sVal
  rw [if_pos this, getD_some ha, getD_some hb]
theorem sVal_imm {x : In} {r : List Nat} {a : Nat} (h : ¬ x.op / 8 % 2 = 1) (ha : r[(x.dst % 4).toNat]? = some a) : sVal x r = doN (x.op / 16).toNat (decide (x.op % 8 = 7)) a (signN x.imm) := by
  have : ¬ xB x = true := by rw [xB_iff]; simp [h]
  unfold sVal
  rw [if_neg this, getD_some ha]
theorem wrap_sign (n : Int) : IntKind.u64.wrap n = ((signN n : Nat) : Int) := by
  rw [wrapU]
  unfold signN
  omega
theorem ucells_one (r : List Nat) : ∀ u ∈ ucells r, u.oneCell' = true := fun u hu => by
  obtain ⟨n, _, rfl⟩ := List.mem_map.1 hu
  rfl
theorem infoU4 : (Tryz.prog.info? 72).map (fun i => (i.zero, i.size, i.bytes)) = some (some (.agg #[.int .u64 0, .int .u64 0, .int .u64 0, .int .u64 0]), 4, 32) := by kernel_rfl
theorem infoU8 : (Tryz.prog.info? 5).map (fun i => (i.zero, i.size, i.bytes)) = some (some (.int .u8 0), 1, 1) := by kernel_rfl
theorem stP_ok {f : List Int} {l : List In} (hf : f.length = 4) (hfr : ∀ v ∈ f, -2147483648 ≤ v ∧ v ≤ 2147483647) (hl : l.length ≤ 60) (hx : ∀ x ∈ l, InOk x) : InsOk (stP f l) where
  len := by rw [stP_len]; have := List.length_filter_le sOk l; omega
  ok := fun x hm => by
    unfold stP at hm
    rcases List.mem_append.1 hm with hm | hm
    · obtain ⟨i, hi, rfl⟩ := List.mem_map.1 hm
      have hi := List.mem_range.1 hi
      have hg : f.getD i 0 ∈ f := by rw [List.getD_eq_getElem?_getD, List.getElem?_eq_getElem (by omega)]; exact List.getElem_mem _
      have := hfr _ hg
      refine ⟨?_, ?_, ?_, ?_, ?_⟩ <;> (show _ ∧ _; unfold movF; simp only []; omega)
    · rcases List.mem_append.1 hm with hm | hm
      · obtain ⟨y, hy, rfl⟩ := List.mem_map.1 hm
        exact sIn_ok (hx y (List.mem_filter.1 hy).1)
      · rw [List.mem_singleton.1 hm]
        refine ⟨?_, ?_, ?_, ?_, ?_⟩ <;> (show _ ∧ _; simp only []; omega)
def wantA (f : List Int) (ops : List In) : List (List Value) := (List.range (ops.length + 1)).map fun k => ucells (regsN f ops k)
theorem wantA_eq (f : List Int) (ops : List In) : wantR f ops ++ [ucells (regsN f ops ops.length)] = wantA f ops := by
  unfold wantR wantA
  rw [List.range_succ, List.map_append]
  rfl
theorem wantA_get (f : List Int) (ops : List In) {i : Nat} (hi : i ≤ ops.length) : (wantA f ops)[i]? = some (ucells (regsN f ops i)) := by
  unfold wantA
  rw [List.getElem?_map, List.getElem?_range (by omega)]
  rfl
theorem stP_ops (f : List Int) (l : List In) : (List.range 4).map (movF f) ++ (l.filter sOk).map sIn ++ [⟨149, 0, 0, 0, 0⟩] = stP f l := by
  unfold stP
  rw [List.append_assoc]
theorem val_cell {w : World} {kg m c : Nat} {V : List (Option KR)} (h : Sl w 33 44 (.slice (some ⟨kg, 0, none⟩) m c) (V.map vrow)) {j n v : Nat} {rs : List Nat} (hj : V[j]? = some (some (rowS rs))) (hn : rs[n]? = some v) {k : Nat} (hk : k < 4) : w.cell? ⟨kg, j * 44 + n * 4 + k, none⟩ = (valC (some v))[k]? := by
  have hr : (rowS rs)[n]? = some (some v) := by
    unfold rowS
    have hl := (List.getElem?_eq_some_iff.1 hn).1
    rw [List.getElem?_append_left (by rw [List.length_map]; exact hl), List.getElem?_map, hn]
    rfl
  have hl2 : n * 4 + k < 44 := by
    have h1 := Sl.any h
    have h2 := h.1 (vrow (some (rowS rs))) (List.mem_of_getElem? (by rw [List.getElem?_map, hj]; rfl))
    have h3 := rowC_get hr k hk
    have h4 : ∃ u, (valC (some v))[k]? = some u := ⟨_, List.getElem?_eq_getElem (by rw [valC_len]; exact hk)⟩
    obtain ⟨u, hu⟩ := h4
    rw [hu] at h3
    have := (List.getElem?_eq_some_iff.1 h3).1
    have h5 : (rowC (rowS rs)).length = 44 := h2
    omega
  rw [Nat.add_assoc, Sl.cell h (by rw [List.getElem?_map, hj]; rfl) hl2]
  exact rowC_get hr k hk
theorem small_eq (v : Nat) : (IntKind.u64.wrap (wrap64 (wrap32 ((v : Int) % 4294967296))) == (v : Int)) = decide (signN (lowI v) = v) := by
  have hl := lowI_rng v
  have h1 : wrap64 (lowI v) = lowI v := by unfold wrap64; omega
  rw [lowI_eq, h1, wrap_sign]
  by_cases h : signN (lowI v) = v
  · rw [decide_eq_true h, h]; simp
  · rw [decide_eq_false h]
    simp
    omega
end Go.Proofs.YtdchmelgaljpfaaGreat

