import Derived.Test.YtdchmelgaljpfaaGreatJw
set_option linter.unusedSimpArgs false
set_option linter.unusedVariables false
namespace Go.Proofs.YtdchmelgaljpfaaGreat
open Go.RowKit

/-! ### the parts of slots without a fault -/
theorem ofS_at {P : List Pt2} {t : Int} {k : Nat} {p : Pt2} (hp : P[k]? = some p) (hin : inP p t = true) (hno : ∀ j q, j < k → P[j]? = some q → inP q t = false) :
    ∀ (n i : Nat), i ≤ k → k < i + n → ofS P t i n = k
  | 0, i, h1, h2 => by omega
  | n + 1, i, h1, h2 => by
    unfold ofS
    rcases Nat.eq_or_lt_of_le h1 with rfl | hlt
    · rw [hp]
      simp [hin]
    · obtain ⟨q, hq⟩ : ∃ q, P[i]? = some q := ⟨_, List.getElem?_eq_getElem (by have := (List.getElem?_eq_some_iff.1 hp).1; omega)⟩
      rw [hq]
      simp only [Option.map_some, Option.getD_some, hno i q hlt hq, Bool.false_eq_true, if_false]
      exact ofS_at hp hin hno n (i + 1) hlt (by omega)
theorem begins_zero {l : List In} (h : slotsC l = 0) : 0 < (beginsL l).length ∧ (beginsL l).getD 0 0 = 0 := by
  obtain ⟨b1, b2, b3⟩ := begins_ok h
  have h0 : (0 : Int) ∈ beginsL l := (b2 0).2 (.inl rfl)
  obtain ⟨j, hj, e⟩ := List.mem_iff_getElem.1 h0
  have hp : 0 < (beginsL l).length := by omega
  refine ⟨hp, ?_⟩
  rw [List.getD_eq_getElem?_getD, List.getElem?_eq_getElem hp]
  show (beginsL l)[0] = 0
  have := (b3 _ (List.getElem_mem hp)).1
  rcases Nat.eq_zero_or_pos j with rfl | hj0
  · exact e
  · have := List.pairwise_iff_getElem.1 b1 0 j hp hj hj0
    omega
theorem begins_lt {l : List In} (h : slotsC l = 0) {i j : Nat} (hij : i < j) (hj : j < (beginsL l).length) : (beginsL l).getD i 0 < (beginsL l).getD j 0 := by
  obtain ⟨b1, b2, b3⟩ := begins_ok h
  have hi : i < (beginsL l).length := by omega
  rw [List.getD_eq_getElem?_getD, List.getD_eq_getElem?_getD, List.getElem?_eq_getElem hi, List.getElem?_eq_getElem hj]
  exact List.pairwise_iff_getElem.1 b1 i j hi hj hij
theorem parts_get {l : List In} {k : Nat} (hk : k < (beginsL l).length) : (partsL l)[k]? = some (partAt (beginsL l) l.length k) := by
  unfold partsL partsOf
  rw [List.getElem?_map, range_take _ _ hk]
  rfl
theorem part_find {l : List In} (h : slotsC l = 0) {t : Int} (ht : t < l.length) : ∀ (n m : Nat), m + n = (beginsL l).length → m < (beginsL l).length → (beginsL l).getD m 0 ≤ t →
    ∃ k, k < (beginsL l).length ∧ (partAt (beginsL l) l.length k).1 ≤ t ∧ t < (partAt (beginsL l) l.length k).2
  | 0, m, h1, h2, _ => by omega
  | n + 1, m, h1, h2, h3 => by
    by_cases hn : m + 1 < (beginsL l).length
    · by_cases h4 : (beginsL l).getD (m + 1) 0 ≤ t
      · exact part_find h ht n (m + 1) (by omega) hn h4
      · refine ⟨m, h2, h3, ?_⟩
        unfold partAt
        rw [if_pos hn]
        exact Int.not_le.1 h4
    · refine ⟨m, h2, h3, ?_⟩
      unfold partAt
      rw [if_neg hn]
      exact ht
theorem part_of {l : List In} (h : slotsC l = 0) {k : Nat} {p : Pt2} (hp : (partsL l)[k]? = some p) {t : Int} (h1 : p.1 ≤ t) (h2 : t < p.2) : ofC (partsL l) t = k := by
  unfold ofC
  refine ofS_at hp (by unfold inP; simp [h1, h2]) (fun j q hj hq => ?_) _ 0 (by omega) (by have := (List.getElem?_eq_some_iff.1 hp).1; omega)
  obtain ⟨hkb, rfl⟩ := parts_at hp
  obtain ⟨hjb, rfl⟩ := parts_at hq
  unfold inP
  rw [Bool.and_eq_false_iff]
  right
  unfold partAt at h1 ⊢
  rw [if_pos (by omega)]
  simp only at h1 ⊢
  rcases Nat.eq_or_lt_of_le (show j + 1 ≤ k from hj) with rfl | hlt
  · exact decide_eq_false (by omega)
  · have := begins_lt h hlt hkb
    exact decide_eq_false (by omega)
theorem part_ex {l : List In} (h : slotsC l = 0) {t : Int} (h0 : 0 ≤ t) (ht : t < l.length) : ∃ (k : Nat) (p : Pt2), (partsL l)[k]? = some p ∧ p.1 ≤ t ∧ t < p.2 ∧ ofC (partsL l) t = k := by
  obtain ⟨hp, hz⟩ := begins_zero h
  obtain ⟨k, hk, h1, h2⟩ := part_find h ht (beginsL l).length 0 (by omega) hp (by rw [hz]; exact h0)
  exact ⟨k, _, parts_get hk, h1, h2, part_of h (parts_get hk) h1 h2⟩

/-! ### jumps that lead nowhere -/
def badR (l : List In) (i : Nat) : Bool := match l[i]?, (secL l)[i]? with
  | some x, some false => isJumpB x && (decide (toR l.length i x.off < 0) || ((secL l)[(toR l.length i x.off).toNat]? == some true || ofC (partsL l) (toR l.length i x.off) != ofC (partsL l) i))
  | _, _ => false
theorem bad_eq {l : List In} (h : slotsC l = 0) {k : Nat} {f t : Nat} (hp : (partsL l)[k]? = some ((f : Int), (t : Int))) {i : Nat} (h1 : f ≤ i) (h2 : i < t) : badR l i = jbadB l f t i := by
  obtain ⟨hr1, hr2, hr3⟩ := (parts_ok h).rng _ (List.mem_of_getElem? hp)
  unfold badR jbadB
  cases hx : l[i]? with
  | none => rfl
  | some x =>
    cases hb : (secL l)[i]? with
    | none => rfl
    | some b =>
      cases b
      case true => rfl
      case false =>
        simp only
        have hi := part_of h hp (t := i) (Int.ofNat_le.2 h1) (Int.ofNat_lt.2 h2)
        congr 1
        unfold goC toR
        generalize (i : Int) + 1 + x.off = n
        simp only at hr3
        rw [hi]
        by_cases c1 : n < 0
        · rw [if_pos c1]
          have : decide (n < (f : Int)) = true := decide_eq_true (by omega)
          rw [this]
          simp
        rw [if_neg c1]
        by_cases c2 : (l.length : Int) ≤ n
        · rw [if_pos c2]
          have : decide ((t : Int) ≤ n) = true := decide_eq_true (by omega)
          rw [this]
          simp
        rw [if_neg c2]
        have hd0 : decide (n < 0) = false := decide_eq_false c1
        rw [hd0, Bool.false_or]
        by_cases c3 : (f : Int) ≤ n ∧ n < t
        · have hn := part_of h hp (t := n) c3.1 c3.2
          have e1 : decide (n < (f : Int)) = false := decide_eq_false (by omega)
          have e2 : decide ((t : Int) ≤ n) = false := decide_eq_false (by omega)
          rw [hn, e1, e2]
          simp
        · obtain ⟨k2, p2, hp2, q1, q2, hn⟩ := part_ex h (t := n) (by omega) (by omega)
          have hne : k2 ≠ k := by
            rintro rfl
            rw [hp] at hp2
            cases hp2
            exact c3 ⟨q1, q2⟩
          have hbn : (((k2 : Nat) : Int) != (k : Int)) = true := bne_iff_ne.2 (by omega)
          rw [hn, hbn]
          have hor : (decide (n < (f : Int)) || decide ((t : Int) ≤ n)) = true := by
            by_cases c4 : n < (f : Int)
            · rw [decide_eq_true c4, Bool.true_or]
            · rw [decide_eq_true (p := (t : Int) ≤ n) (by omega), Bool.or_true]
          rw [Bool.or_true, ← Bool.or_assoc, hor, Bool.true_or]
theorem leads_eq {l : List In} (h : slotsC l = 0) : leadsB l (partsL l) = (List.range l.length).all fun i => !badR l i := by
  rw [Bool.eq_iff_iff]
  unfold leadsB
  simp only [List.all_eq_true, List.mem_range, Bool.not_eq_true']
  constructor
  · intro hl i hi
    obtain ⟨k, p, hp, h1, h2, _⟩ := part_ex h (t := i) (by omega) (by omega)
    obtain ⟨f, t, rfl, hft, htl⟩ := (parts_ok h).nat hp
    simp only at h1 h2
    rw [bad_eq h hp (by omega) (by omega)]
    have := hl _ (List.mem_of_getElem? hp)
    unfold leadB at this
    simp only [List.all_eq_true, List.mem_range, Bool.not_eq_true', Int.toNat_natCast] at this
    have h3 := this (i - f) (by omega)
    rwa [show f + (i - f) = i by omega] at h3
  · intro hl p hp
    obtain ⟨k, hk⟩ := List.mem_iff_getElem?.1 hp
    obtain ⟨f, t, rfl, hft, htl⟩ := (parts_ok h).nat hk
    unfold leadB
    simp only [List.all_eq_true, List.mem_range, Bool.not_eq_true', Int.toNat_natCast]
    intro j hj
    rw [← bad_eq h hk (by omega) (by omega)]
    exact hl _ (by omega)

end Go.Proofs.YtdchmelgaljpfaaGreat
set_option linter.unusedSimpArgs false
set_option linter.unusedVariables false
namespace Go.Proofs.YtdchmelgaljpfaaGreat
open Go.RowKit

/-! ### Check -/
theorem checkI_eq (l : List In) : checkI l = if subsC l = 0 then (if ((List.range l.length).all fun i => !badR l i) = true then 0 else 15) else subsC l := by
  unfold checkI subsC
  by_cases h : slotsC l = 0
  · rw [if_pos h, if_pos h]
    by_cases h2 : endedC l (partsL l) = 0
    · rw [if_pos h2, if_pos h2, leads_eq h]
    · rw [if_neg h2, if_neg h2]
  · rw [if_neg h, if_neg h, if_neg h]
theorem subs_zero {l : List In} (h : subsC l = 0) : slotsC l = 0 := by
  unfold subsC at h
  by_cases hz : slotsC l = 0
  · exact hz
  · rw [if_neg hz] at h
    exact absurd h hz
end Go.Proofs.YtdchmelgaljpfaaGreat
