import Derived.Test.YtdgniibolfahaaaKl
set_option linter.unusedSimpArgs false
set_option linter.unusedVariables false
namespace Go.Proofs.Ytdgniibolfahaaa
open Go.RowKit

/-! ### programs without a fault, by what begins and where slots go -/
def behI (i : Nat) (x : In) : Nat := if x.op = 24 then i + 2 else i + 1
/-- no subprogram begins between two slots -/
def SameP (l : List In) (i n : Nat) : Prop := ∀ b ∈ beginsL l, b ≤ (i : Int) ↔ b ≤ (n : Int)
structure Va (l : List In) : Prop where
  one : 1 ≤ l.length
  most : l.length ≤ 4096
  wr : ∀ (i : Nat) (x : In), l[i]? = some x → (secL l)[i]? = some false → wrongC l i x = 0
  few : (beginsL l).length ≤ 64
  fall : ∀ (i : Nat) (x : In), l[i]? = some x → (secL l)[i]? = some false → x.op ≠ 149 → x.op ≠ 5 → behI i x < l.length ∧ (secL l)[behI i x]? = some false ∧ SameP l i (behI i x)
  jmp : ∀ (i : Nat) (x : In), l[i]? = some x → (secL l)[i]? = some false → isJumpB x = true → ∃ n : Nat, (i : Int) + 1 + x.off = n ∧ n < l.length ∧ (secL l)[n]? = some false ∧ SameP l i n
theorem SameP.symm {l : List In} {i n : Nat} (h : SameP l i n) : SameP l n i := fun b hb => (h b hb).symm
theorem SameP.trans {l : List In} {i n m : Nat} (h : SameP l i n) (k : SameP l n m) : SameP l i m := fun b hb => (h b hb).trans (k b hb)
theorem scan_of {l : List In} : ∀ (n i : Nat), (∀ k, i ≤ k → k < i + n → slotC l k = 0) → scanC l i n = 0
  | 0, i, _ => rfl
  | n + 1, i, h => by
    unfold scanC
    rw [if_pos (h i (Nat.le_refl _) (by omega))]
    exact scan_of n (i + 1) (fun k h1 h2 => h k (by omega) (by omega))
theorem slots_of {l : List In} (h1 : 1 ≤ l.length) (h2 : l.length ≤ 4096) (h : ∀ (i : Nat) (x : In), l[i]? = some x → (secL l)[i]? = some false → wrongC l i x = 0) : slotsC l = 0 := by
  unfold slotsC
  rw [if_neg (by omega)]
  refine scan_of _ _ fun k _ hk => ?_
  unfold slotC
  cases hx : l[k]? with
  | none => rfl
  | some x =>
    cases hb : (secL l)[k]? with
    | none => rfl
    | some b =>
      cases b
      · exact h k x hx hb
      · rfl
/-- a slot's subprogram, by the begins -/
theorem part_begins {l : List In} (h : slotsC l = 0) {t : Int} (h0 : 0 ≤ t) (ht : t < l.length) : ∃ k : Nat, ofC (partsL l) t = k ∧ k < (beginsL l).length ∧ ∀ j, j < (beginsL l).length → ((beginsL l).getD j 0 ≤ t ↔ j ≤ k) := by
  obtain ⟨k, p, hp, h1, h2, h3⟩ := part_ex h h0 ht
  obtain ⟨hk, rfl⟩ := parts_at hp
  refine ⟨k, h3, hk, fun j hj => ⟨fun h4 => ?_, fun h4 => ?_⟩⟩
  · rcases Nat.lt_or_ge k j with h5 | h5
    · exfalso
      unfold partAt at h2
      rw [if_pos (by omega)] at h2
      simp only at h2
      rcases Nat.eq_or_lt_of_le (show k + 1 ≤ j from h5) with rfl | h6
      · omega
      · have := begins_lt h h6 hj
        omega
    · exact h5
  · rcases Nat.eq_or_lt_of_le h4 with rfl | h6
    · exact h1
    · have := begins_lt h h6 hk
      have h7 : (beginsL l).getD k 0 ≤ t := h1
      omega
theorem same_iff {l : List In} (h : slotsC l = 0) {i n : Nat} (hi : i < l.length) (hn : n < l.length) : SameP l i n ↔ ofC (partsL l) n = ofC (partsL l) i := by
  obtain ⟨k, e1, hk, h1⟩ := part_begins h (t := i) (by omega) (by omega)
  obtain ⟨m, e2, hm, h2⟩ := part_begins h (t := n) (by omega) (by omega)
  have hget : ∀ j (hj : j < (beginsL l).length), (beginsL l).getD j 0 ∈ beginsL l := fun j hj => by
    rw [List.getD_eq_getElem?_getD, List.getElem?_eq_getElem hj]
    exact List.getElem_mem hj
  rw [e1, e2]
  constructor
  · intro hs
    have a1 := (h2 k hk).1 ((hs _ (hget k hk)).1 ((h1 k hk).2 (Nat.le_refl _)))
    have a2 := (h1 m hm).1 ((hs _ (hget m hm)).2 ((h2 m hm).2 (Nat.le_refl _)))
    omega
  · intro e b hb
    obtain ⟨j, hj, rfl⟩ := List.mem_iff_getElem.1 hb
    have e3 : (beginsL l)[j] = (beginsL l).getD j 0 := by rw [List.getD_eq_getElem?_getD, List.getElem?_eq_getElem hj]; rfl
    rw [e3, h1 j hj, h2 j hj]
    omega
theorem beh_eq {i : Nat} {x : In} : behI i x = if x.op = 24 then i + 2 else i + 1 := rfl
theorem va_of {l : List In} (h : checkI l = 0) : Va l := by
  obtain ⟨hz, h64, _, _⟩ := check_parts h
  obtain ⟨h1, h2, h3⟩ := slots_zero hz
  refine ⟨h1, h2, fun i x hx hs => ?_, by rw [← parts_len]; exact h64, fun i x hx hs h149 h5 => ?_, fun i x hx hs hj => ?_⟩
  · have := h3 i (List.getElem?_eq_some_iff.1 hx).1
    rwa [slot_wrong hx hs] at this
  · obtain ⟨a, b, c⟩ := behind_ok h hx hs h149 h5 beh_eq
    exact ⟨a, b, (same_iff hz (List.getElem?_eq_some_iff.1 hx).1 a).2 c⟩
  · obtain ⟨n, a, b, c, d⟩ := jump_ok h hx hs hj
    exact ⟨n, a, b, c, (same_iff hz (List.getElem?_eq_some_iff.1 hx).1 b).2 d⟩
theorem check_va {l : List In} (h : Va l) : checkI l = 0 := by
  have hz := slots_of h.one h.most h.wr
  refine check_of hz (by rw [parts_len]; exact h.few) (fun p hp => ?_) fun i hi => ?_
  · obtain ⟨k, hk⟩ := List.mem_iff_getElem?.1 hp
    obtain ⟨f, t, rfl, hft, htl⟩ := (parts_ok hz).nat hk
    have hpe := part_end hz hk
    simp only [Int.toNat_natCast] at hpe
    obtain ⟨m, rfl⟩ : ∃ m, t = m + 1 := ⟨t - 1, by omega⟩
    obtain ⟨hkb, hpa⟩ := parts_at hk
    -- the last slot of a part
    have hlast : ∀ (i : Nat) (x : In), l[i]? = some x → (secL l)[i]? = some false → f ≤ i → (i = m ∨ i + 1 = m ∧ (secL l)[m]? = some true) → x.op = 149 ∨ x.op = 5 := by
      intro i x hx hs hfi him
      by_cases h149 : x.op = 149
      · exact .inl h149
      by_cases h5 : x.op = 5
      · exact .inr h5
      exfalso
      obtain ⟨a1, a2, a3⟩ := h.fall i x hx hs h149 h5
      have ho := (same_iff hz (List.getElem?_eq_some_iff.1 hx).1 a1).1 a3
      have hpi := part_of hz hk (t := i) (by simp only; omega) (by simp only; omega)
      rw [hpi] at ho
      obtain ⟨k2, p2, hp2, q1, q2, q3⟩ := part_ex hz (t := (behI i x : Nat)) (by omega) (by omega)
      rw [ho] at q3
      obtain rfl : k = k2 := Int.ofNat_inj.1 q3
      rw [hk] at hp2
      cases hp2
      simp only at q1 q2
      have hbe : behI i x = i + 1 ∨ behI i x = i + 2 := by unfold behI; split <;> simp
      rcases him with rfl | ⟨him, hsm⟩
      · omega
      · rcases hbe with e | e
        · rw [e, him, hsm] at a2
          cases a2
        · omega
    unfold endB lastC
    simp only [Int.toNat_natCast, Nat.add_sub_cancel]
    obtain ⟨b, hb⟩ := sec_get (l := l) (i := m) (by omega)
    rw [hb]
    cases b
    · rw [if_neg (by simp)]
      obtain ⟨x, hx⟩ : ∃ x, l[m]? = some x := ⟨_, List.getElem?_eq_getElem (by omega)⟩
      rw [hx]
      rcases hlast m x hx hb (by omega) (.inl rfl) with e | e <;> simp [e]
    · rw [if_pos rfl]
      obtain ⟨q, rfl⟩ : ∃ q, m = q + 1 := ⟨m - 1, by
        rcases Nat.eq_zero_or_pos m with rfl | h
        · rw [sec_zero (by omega)] at hb; cases hb
        · omega⟩
      obtain ⟨x, hx⟩ : ∃ x, l[q]? = some x := ⟨_, List.getElem?_eq_getElem (by omega)⟩
      obtain ⟨b2, hb2⟩ := sec_get (l := l) (i := q) (by omega)
      have hsu := sec_succ hx hb2 (by omega)
      rw [hb] at hsu
      have hb2' : (secL l)[q]? = some false := by
        cases b2
        · exact hb2
        · simp at hsu
      have hfq : f ≤ q := by
        have hbf := (begins_ok hz).2.2 ((f : Nat) : Int) (by
          have e : ((f : Nat) : Int) = (beginsL l).getD k 0 := congrArg Prod.fst hpa
          rw [e, List.getD_eq_getElem?_getD, List.getElem?_eq_getElem hkb]
          exact List.getElem_mem hkb)
        rcases Nat.lt_or_ge q f with h6 | h6
        · exfalso
          obtain rfl : f = q + 1 := by omega
          have := hbf.2.2
          rw [Int.toNat_natCast, hb] at this
          cases this
        · exact h6
      rw [show q + 1 + 1 - 2 = q by omega, hx]
      rcases hlast q x hx hb2' hfq (.inr ⟨rfl, hb⟩) with e | e <;> simp [e]
  · unfold badR
    cases hx : l[i]? with
    | none => rfl
    | some x =>
      cases hb : (secL l)[i]? with
      | none => rfl
      | some b =>
        cases b
        case true => rfl
        case false =>
          simp only
          cases hj : isJumpB x
          · rfl
          · obtain ⟨n, e, h1, h2, h3⟩ := h.jmp i x hx hb hj
            have ho := (same_iff hz hi h1).1 h3
            have ht : toR l.length i x.off = n := by
              unfold toR
              rw [if_neg (by omega), if_neg (by omega), e]
            rw [ht, Int.toNat_natCast, h2, ho]
            have : decide ((n : Int) < 0) = false := decide_eq_false (by omega)
            rw [this]
            simp

end Go.Proofs.Ytdgniibolfahaaa
set_option linter.unusedSimpArgs false
set_option linter.unusedVariables false
namespace Go.Proofs.Ytdgniibolfahaaa
open Go.RowKit

/-! ### slots that are kept -/
def NX (S : List Bool) (a m : Nat) : Prop := a ≤ m ∧ S[m]? = some true ∧ ∀ j, a ≤ j → j < m → S[j]? ≠ some true
structure KeepP (l : List In) (S : List Bool) : Prop where
  len : S.length = l.length
  sec : ∀ i : Nat, (secL l)[i + 1]? = some true → S[i + 1]? = S[i]?
  some_ : ∃ i : Nat, S[i]? = some true
  fall : ∀ (i : Nat) (x : In), l[i]? = some x → S[i]? = some true → (secL l)[i]? = some false → x.op ≠ 149 → x.op ≠ 5 → ∃ m, NX S (behI i x) m ∧ (secL l)[m]? = some false ∧ SameP l i m
  jmp : ∀ (i : Nat) (x : In), l[i]? = some x → S[i]? = some true → (secL l)[i]? = some false → isJumpB x = true → ∃ a m : Nat, (i : Int) + 1 + x.off = a ∧ NX S a m ∧ (secL l)[m]? = some false ∧ SameP l i m
  nam : ∀ (i : Nat) (x : In), l[i]? = some x → S[i]? = some true → (secL l)[i]? = some false → isCallB x = true → ∃ a m : Nat, (i : Int) + 1 + x.imm = a ∧ NX S a m ∧ (secL l)[m]? = some false ∧ 1 ≤ placeC S m
theorem bool_get {S : List Bool} {i : Nat} (hi : i < S.length) : ∃ b, S[i]? = some b := ⟨_, List.getElem?_eq_getElem hi⟩
theorem place_step {S : List Bool} {i : Nat} (h : S[i]? = some true) : placeC S (i + 1) = placeC S i + 1 := by rw [place_succ h]; rfl
theorem place_skip {S : List Bool} {i : Nat} (h : S[i]? ≠ some true) : placeC S (i + 1) = placeC S i := by
  by_cases hi : i < S.length
  · obtain ⟨b, hb⟩ := bool_get hi
    cases b
    · rw [place_succ hb]; rfl
    · exact absurd hb h
  · unfold placeC
    rw [List.take_of_length_le (by omega), List.take_of_length_le (by omega)]
theorem place_nx {S : List Bool} {a m : Nat} (h : NX S a m) : placeC S a = placeC S m := by
  obtain ⟨h1, h2, h3⟩ := h
  obtain ⟨d, rfl⟩ : ∃ d, m = a + d := ⟨m - a, by omega⟩
  clear h1 h2
  induction d with
  | zero => rfl
  | succ d ih =>
    have := ih (fun j h4 h5 => h3 j h4 (by omega))
    rw [this, ← Nat.add_assoc, place_skip (h3 (a + d) (by omega) (by omega))]
theorem place_lt {S : List Bool} {i j : Nat} (h : S[i]? = some true) (hij : i < j) : placeC S i < placeC S j := by
  have h1 := place_step h
  have h2 := place_mono S (show i + 1 ≤ j from hij)
  omega
theorem place_inj {S : List Bool} {i j : Nat} (h : S[i]? = some true) (k : S[j]? = some true) (e : placeC S i = placeC S j) : i = j := by
  rcases Nat.lt_trichotomy i j with h1 | h1 | h1
  · have := place_lt h h1; omega
  · exact h1
  · have := place_lt k h1; omega
theorem place_le_iff {S : List Bool} {i a : Nat} (h : S[i]? = some true) : placeC S a ≤ placeC S i ↔ a ≤ i := by
  constructor
  · intro h1
    rcases Nat.lt_or_ge i a with h2 | h2
    · have := place_lt h h2; omega
    · exact h2
  · exact place_mono S
theorem place_inv {S : List Bool} : ∀ (n j : Nat), n ≤ S.length → j < placeC S n → ∃ i, i < n ∧ S[i]? = some true ∧ placeC S i = j
  | 0, j, _, h => by simp [placeC] at h
  | n + 1, j, hn, h => by
    obtain ⟨b, hb⟩ := bool_get (S := S) (i := n) (by omega)
    cases b
    · rw [place_succ hb] at h
      obtain ⟨i, h1, h2, h3⟩ := place_inv (S := S) n j (by omega) (by simpa using h)
      exact ⟨i, by omega, h2, h3⟩
    · rw [place_succ hb] at h
      simp only [if_true] at h
      rcases Nat.eq_or_lt_of_le (show j ≤ placeC S n by omega) with e | e
      · exact ⟨n, by omega, hb, e.symm⟩
      · obtain ⟨i, h1, h2, h3⟩ := place_inv (S := S) n j (by omega) e
        exact ⟨i, by omega, h2, h3⟩
section
variable {l : List In} {S : List Bool}
theorem kept_at (hl : S.length = l.length) : ∀ (n i : Nat), n ≤ l.length → i < n → S[i]? = some true → ∀ x, l[i]? = some x → (keptG l S n)[placeC S i]? = some (fixC l S i x) ∧ (outL S n)[placeC S i]? = some (i : Int)
  | 0, i, _, h, _, _, _ => by omega
  | n + 1, i, hn, hi, hs, x, hx => by
    obtain ⟨y, hy⟩ : ∃ y, l[n]? = some y := ⟨_, List.getElem?_eq_getElem (by omega)⟩
    obtain ⟨b, hb⟩ := bool_get (S := S) (i := n) (by omega)
    rw [kept_succ hy hb, out_succ S n b hb]
    obtain ⟨e1, e2⟩ := kept_len (l := l) (S := S) n (by omega) (by omega)
    rcases Nat.eq_or_lt_of_le (Nat.le_of_lt_succ hi) with rfl | hlt
    · rw [hs] at hb
      cases hb
      rw [hx] at hy
      cases hy
      rw [if_pos rfl, if_pos rfl, List.getElem?_append_right (by omega), List.getElem?_append_right (by omega), e1, e2, Nat.sub_self]
      exact ⟨rfl, rfl⟩
    · have hpl := place_lt hs hlt
      obtain ⟨a1, a2⟩ := kept_at hl n i (by omega) hlt hs x hx
      rw [List.getElem?_append_left (by omega), List.getElem?_append_left (by omega)]
      exact ⟨a1, a2⟩
/-- the program of what is kept -/
def keptL (l : List In) (S : List Bool) : List In := keptG l S l.length
theorem keptL_len (h : S.length = l.length) : (keptL l S).length = placeC S l.length := (kept_len _ (Nat.le_refl _) (by omega)).1
theorem keptL_at (h : S.length = l.length) {i : Nat} {x : In} (hs : S[i]? = some true) (hx : l[i]? = some x) : (keptL l S)[placeC S i]? = some (fixC l S i x) :=
  (kept_at h l.length i (Nat.le_refl _) (List.getElem?_eq_some_iff.1 hx).1 hs x hx).1
theorem keptL_inv (h : S.length = l.length) {j : Nat} {y : In} (hy : (keptL l S)[j]? = some y) : ∃ i x, l[i]? = some x ∧ S[i]? = some true ∧ placeC S i = j ∧ y = fixC l S i x := by
  have hj := (List.getElem?_eq_some_iff.1 hy).1
  rw [keptL_len h] at hj
  obtain ⟨i, h1, h2, h3⟩ := place_inv l.length j (by omega) hj
  obtain ⟨x, hx⟩ : ∃ x, l[i]? = some x := ⟨_, List.getElem?_eq_getElem h1⟩
  have := keptL_at h h2 hx
  rw [h3, hy] at this
  exact ⟨i, x, hx, h2, h3, Option.some.inj this⟩
theorem fix_op (i : Nat) (x : In) : (fixC l S i x).op = x.op ∧ (fixC l S i x).dst = x.dst ∧ (fixC l S i x).src = x.src := by
  unfold fixC
  split
  · exact ⟨rfl, rfl, rfl⟩
  · split
    · exact ⟨rfl, rfl, rfl⟩
    · split <;> exact ⟨rfl, rfl, rfl⟩
theorem kept_lt (h : S.length = l.length) {i : Nat} (hs : S[i]? = some true) : placeC S i < (keptL l S).length := by
  rw [keptL_len h]
  exact place_lt hs (by have := (List.getElem?_eq_some_iff.1 hs).1; omega)
/-- second slots stay second ones -/
theorem kept_sec (hk : KeepP l S) : ∀ (n i : Nat), placeC S i = n → S[i]? = some true → (secL (keptL l S))[n]? = (secL l)[i]?
  | 0, i, hp, hs => by
    have hil : i < l.length := by have := (List.getElem?_eq_some_iff.1 hs).1; have := hk.len; omega
    have hlt := kept_lt hk.len hs
    rw [sec_zero (by omega)]
    obtain ⟨b, hb⟩ := sec_get hil
    rw [hb]
    cases b
    · rfl
    · exfalso
      obtain ⟨q, rfl⟩ : ∃ q, i = q + 1 := ⟨i - 1, by
        rcases Nat.eq_zero_or_pos i with rfl | h
        · rw [sec_zero (by omega)] at hb; cases hb
        · omega⟩
      have h1 := hk.sec q hb
      rw [hs] at h1
      have := place_lt h1.symm (show q < q + 1 by omega)
      omega
  | n + 1, i, hp, hs => by
    have hil : i < l.length := by have := (List.getElem?_eq_some_iff.1 hs).1; have := hk.len; omega
    have hlt := kept_lt hk.len hs
    obtain ⟨i0, h1, h2, h3⟩ := place_inv (S := S) i n (by have := hk.len; omega) (by omega)
    obtain ⟨x0, hx0⟩ : ∃ x, l[i0]? = some x := ⟨_, List.getElem?_eq_getElem (by omega)⟩
    have ih := kept_sec hk n i0 h3 h2
    obtain ⟨b0, hb0⟩ := sec_get (l := l) (i := i0) (by omega)
    rw [hb0] at ih
    have hst := sec_succ (keptL_at hk.len h2 hx0 |> (h3 ▸ ·)) ih (by omega)
    rw [(fix_op i0 x0).1] at hst
    have hsl := sec_succ hx0 hb0 (show i0 + 1 < l.length by omega)
    rw [hst, ← hsl]
    rcases Nat.eq_or_lt_of_le (show i0 + 1 ≤ i from h1) with rfl | h4
    · rfl
    · have hno : ∀ j, i0 < j → j < i → S[j]? ≠ some true := fun j h5 h6 h7 => by
        have a1 := place_lt h2 h5
        have a2 := place_lt h7 h6
        omega
      have e1 : (secL l)[i0 + 1]? = some false := by
        obtain ⟨b, hb⟩ := sec_get (l := l) (i := i0 + 1) (by omega)
        cases b
        · exact hb
        · exact absurd ((hk.sec i0 hb).trans h2) (hno (i0 + 1) (by omega) h4)
      rw [e1]
      obtain ⟨b, hb⟩ := sec_get (l := l) (i := i) hil
      rw [hb]
      cases b
      · rfl
      · exfalso
        obtain ⟨q, rfl⟩ : ∃ q, i = q + 1 := ⟨i - 1, by omega⟩
        have := hk.sec q hb
        rw [hs] at this
        exact hno q (by omega) (by omega) this.symm
theorem known_off {x : In} (o : Int) (hj : isJumpB x = true) : knownB { x with off := o } = knownB x := by
  unfold isJumpB at hj
  simp only [Bool.and_eq_true, Bool.or_eq_true, beq_iff_eq, bne_iff_ne, ne_eq] at hj
  obtain ⟨⟨h1, h2⟩, h3⟩ := hj
  have hc : clsI { x with off := o } = clsI x := rfl
  have hk : codeI { x with off := o } = codeI x := rfl
  unfold knownB
  rw [hc]
  rcases h1 with h1 | h1
  · rw [h1]
    simp only [reduceIte, Int.reduceEq, or_false, or_true, or_self, true_or, false_or, if_false]
    unfold jumpB
    rw [hk, if_neg h2, if_neg h2, if_neg h3, if_neg h3]
    rfl
  · rw [h1]
    simp only [reduceIte, Int.reduceEq, or_false, or_true, or_self, true_or, false_or, if_false]
    unfold jumpB
    rw [hk, if_neg h2, if_neg h2, if_neg h3, if_neg h3]
    rfl
theorem known_imm {x : In} (v : Int) (hc : isCallB x = true) : knownB { x with imm := v } = knownB x := by
  unfold isCallB at hc
  simp only [Bool.or_eq_true, Bool.and_eq_true, beq_iff_eq] at hc
  obtain ⟨op, dst, src, off, imm⟩ := x
  simp only at hc ⊢
  rcases hc with ⟨rfl, rfl⟩ | ⟨rfl, rfl⟩ <;> rfl
theorem place_diff (S : List Bool) {i n : Nat} (hi : i ≤ 4096) (hn : n ≤ 4096) : -4097 ≤ (placeC S n : Int) - ((placeC S i : Int) + 1) ∧ (placeC S n : Int) - ((placeC S i : Int) + 1) ≤ 4096 := by
  have h1 := place_le S i
  have h2 := place_le S n
  omega
theorem nx_lt (hk : KeepP l S) {a m : Nat} (h : NX S a m) : m < l.length := by
  have := (List.getElem?_eq_some_iff.1 h.2.1).1
  have := hk.len
  omega
theorem fj_of (hv : Va l) (hok : InsOk l) {i : Nat} {x : In} (hx : l[i]? = some x) (hs : (secL l)[i]? = some false) : fjB x = isJumpB x ∧ knownB x = true :=
  ⟨fj_eq (hok.at_ hx) (known_of (slots_of hv.one hv.most hv.wr) hx hs), known_of (slots_of hv.one hv.most hv.wr) hx hs⟩
/-- what a kept slot becomes -/
theorem fix_cases (hv : Va l) (hok : InsOk l) (hk : KeepP l S) {i : Nat} {x : In} (hx : l[i]? = some x) (hS : S[i]? = some true) :
    ((secL l)[i]? = some true ∧ fixC l S i x = x) ∨
    ((secL l)[i]? = some false ∧ isJumpB x = true ∧ isCallB x = false ∧ ∃ a m : Nat, (i : Int) + 1 + x.off = a ∧ NX S a m ∧ (secL l)[m]? = some false ∧ SameP l i m ∧ fixC l S i x = { x with off := (placeC S m : Int) - ((placeC S i : Int) + 1) }) ∨
    ((secL l)[i]? = some false ∧ isJumpB x = false ∧ isCallB x = true ∧ ∃ a m : Nat, (i : Int) + 1 + x.imm = a ∧ NX S a m ∧ (secL l)[m]? = some false ∧ 1 ≤ placeC S m ∧ fixC l S i x = { x with imm := (placeC S m : Int) - ((placeC S i : Int) + 1) }) ∨
    ((secL l)[i]? = some false ∧ isJumpB x = false ∧ isCallB x = false ∧ fixC l S i x = x) := by
  obtain ⟨b, hb⟩ := sec_get (List.getElem?_eq_some_iff.1 hx).1
  cases b
  case true =>
    refine .inl ⟨hb, ?_⟩
    unfold fixC
    rw [if_pos hb]
  case false =>
    have hfj := (fj_of hv hok hx hb).1
    right
    cases hj : isJumpB x
    case true =>
      left
      obtain ⟨a, m, e, h1, h2, h3⟩ := hk.jmp i x hx hS hb hj
      have hcl : isCallB x = false := by
        cases hc : isCallB x
        · rfl
        · rw [call_nojump hc] at hj; cases hj
      refine ⟨hb, rfl, hcl, a, m, e, h1, h2, h3, ?_⟩
      unfold fixC
      rw [if_neg (by rw [hb]; simp), if_pos (by rw [hfj, hj]), e, Int.toNat_natCast, place_nx h1]
    case false =>
      right
      cases hc : isCallB x
      case true =>
        left
        obtain ⟨a, m, e, h1, h2, h3⟩ := hk.nam i x hx hS hb hc
        refine ⟨hb, rfl, rfl, a, m, e, h1, h2, h3, ?_⟩
        unfold fixC
        rw [if_neg (by rw [hb]; simp), if_neg (by rw [hfj, hj]; simp), if_pos hc, e, Int.toNat_natCast, place_nx h1]
      case false =>
        right
        refine ⟨hb, rfl, rfl, ?_⟩
        unfold fixC
        rw [if_neg (by rw [hb]; simp), if_neg (by rw [hfj, hj]; simp), if_neg (by rw [hc]; simp)]
theorem kept_ok (hv : Va l) (hok : InsOk l) (hk : KeepP l S) : InsOk (keptL l S) := by
  refine ⟨by rw [keptL_len hk.len]; have := place_le S l.length; have := hok.len; omega, fun y hy => ?_⟩
  obtain ⟨j, hj⟩ := List.mem_iff_getElem?.1 hy
  obtain ⟨i, x, hx, hs, _, rfl⟩ := keptL_inv hk.len hj
  have hxo := hok.at_ hx
  have hi := (List.getElem?_eq_some_iff.1 hx).1
  have hm := hv.most
  rcases fix_cases hv hok hk hx hs with ⟨_, e⟩ | ⟨_, _, _, a, m, _, h1, _, _, e⟩ | ⟨_, _, _, a, m, _, h1, _, _, e⟩ | ⟨_, _, _, e⟩
  · rw [e]; exact hxo
  · rw [e]
    have := place_diff S (i := i) (n := m) (by omega) (by have := nx_lt hk h1; omega)
    exact ⟨hxo.op, hxo.dst, hxo.src, ⟨by simp only; omega, by simp only; omega⟩, hxo.imm⟩
  · rw [e]
    have := place_diff S (i := i) (n := m) (by omega) (by have := nx_lt hk h1; omega)
    exact ⟨hxo.op, hxo.dst, hxo.src, hxo.off, ⟨by simp only; omega, by simp only; omega⟩⟩
  · rw [e]; exact hxo
end

end Go.Proofs.Ytdgniibolfahaaa
set_option linter.unusedSimpArgs false
set_option linter.unusedVariables false
namespace Go.Proofs.Ytdgniibolfahaaa
open Go.RowKit

/-! ### what is kept is a program without a fault -/
theorem len_le_of_sub : ∀ {a b : List Int}, a.Nodup → (∀ x ∈ a, x ∈ b) → a.length ≤ b.length
  | [], b, _, _ => Nat.zero_le _
  | y :: a, b, hn, hs => by
    rw [List.nodup_cons] at hn
    have hy := hs y (List.mem_cons_self ..)
    have := len_le_of_sub (a := a) (b := b.erase y) hn.2 (fun x hx => by
      have hne : x ≠ y := fun e => hn.1 (by rw [← e]; exact hx)
      exact (List.mem_erase_of_ne hne).2 (hs x (List.mem_cons_of_mem _ hx)))
    rw [List.length_erase_of_mem hy] at this
    have := List.length_pos_of_mem hy
    simp only [List.length_cons]
    omega
theorem rising_nodup {a : List Int} (h : a.Pairwise (· < ·)) : a.Nodup := h.imp (fun h e => by omega)
section
variable {l : List In} {S : List Bool}
theorem call_op {x y : In} (h1 : y.op = x.op) (h2 : y.src = x.src) : isCallB y = isCallB x := by
  unfold isCallB
  rw [h1, h2]
theorem kept_second (hk : KeepP l S) {i : Nat} {x : In} (hx : l[i]? = some x) (hS : S[i]? = some true) (hs : (secL l)[i]? = some false) (h24 : x.op = 24) (hi : i + 1 < l.length) : (secL l)[i + 1]? = some true ∧ S[i + 1]? = some true := by
  have hs1 := sec_succ hx hs hi
  rw [h24] at hs1
  have hs1 : (secL l)[i + 1]? = some true := hs1
  exact ⟨hs1, (hk.sec i hs1).trans hS⟩
theorem kept_wrong (hv : Va l) (hok : InsOk l) (hk : KeepP l S) {i : Nat} {x : In} (hx : l[i]? = some x) (hS : S[i]? = some true) (hs : (secL l)[i]? = some false) : wrongC (keptL l S) (placeC S i) (fixC l S i x) = 0 := by
  obtain ⟨hkn, hrg, hwd, hrs⟩ := wrong_rest (hv.wr i x hx hs)
  obtain ⟨eo, ed, es⟩ := fix_op (l := l) (S := S) i x
  have hw : writesB (fixC l S i x) = writesB x := by unfold writesB clsI; rw [eo]
  have hkn' : knownB (fixC l S i x) = true := by
    rcases fix_cases hv hok hk hx hS with ⟨_, e⟩ | ⟨_, hj, _, a, m, _, _, _, _, e⟩ | ⟨_, _, hc, a, m, _, _, _, _, e⟩ | ⟨_, _, _, e⟩
    · rw [e]; exact hkn
    · rw [e, known_off _ hj]; exact hkn
    · rw [e, known_imm _ hc]; exact hkn
    · rw [e]; exact hkn
  unfold wrongC
  rw [if_neg (by rw [hkn']; simp), ed, es, hw, if_neg (by rw [hrg]; simp), eo]
  have hwh : (x.op == 24 && !wholeB (keptL l S) (placeC S i)) = false := by
    by_cases h24 : x.op = 24
    · rw [h24] at hwd
      have hwo : wholeB l i = true := by simpa using hwd
      obtain ⟨z, hz, z0, z1, z2, z3, z4⟩ := whole_get hx hwo
      have hi1 := (List.getElem?_eq_some_iff.1 hz).1
      obtain ⟨hs1, hS1⟩ := kept_second hk hx hS hs h24 hi1
      have hfz : fixC l S (i + 1) z = z := by unfold fixC; rw [if_pos hs1]
      have hat := keptL_at hk.len hS1 hz
      rw [hfz, place_step hS] at hat
      have : wholeB (keptL l S) (placeC S i) = true := by
        unfold wholeB
        rw [keptL_at hk.len hS hx, hat]
        unfold zeroB
        simp only [z0, z1, z2, z3, es]
        rcases z4 with z4 | z4
        · rw [if_pos z4]; rfl
        · rw [z4]; split <;> rfl
      rw [this]
      simp
    · have : (x.op == 24) = false := by simpa using h24
      rw [this]
      rfl
  rw [if_neg (by rw [hwh]; simp)]
  have hcl := call_op eo es
  unfold restC
  unfold restC at hrs
  rw [hcl]
  rcases fix_cases hv hok hk hx hS with ⟨hb, _⟩ | ⟨_, hj, hc, a, m, _, _, _, _, e⟩ | ⟨_, _, hc, a, m, ea, hnx, hsm, hp1, e⟩ | ⟨_, _, hc, e⟩
  · rw [hs] at hb; cases hb
  · rw [if_neg (by rw [hc]; simp)] at hrs ⊢
    rw [e]
    exact hrs
  · rw [if_pos hc, e]
    simp only
    have : (placeC S i : Int) + 1 + ((placeC S m : Int) - ((placeC S i : Int) + 1)) = placeC S m := by omega
    rw [this]
    have hlt := kept_lt hk.len hnx.2.1
    have hsec := kept_sec hk _ m rfl hnx.2.1
    unfold callC
    rw [if_neg (by omega), if_neg (by omega), Int.toNat_natCast, hsec, hsm, if_neg (by simp)]
  · rw [if_neg (by rw [hc]; simp)] at hrs ⊢
    rw [e]
    exact hrs
theorem kept_slots (hv : Va l) (hok : InsOk l) (hk : KeepP l S) : slotsC (keptL l S) = 0 := by
  have hl := keptL_len (l := l) hk.len
  obtain ⟨i, hi⟩ := hk.some_
  refine slots_of ?_ (by rw [hl]; have := place_le S l.length; have := hv.most; omega) fun j y hy hs => ?_
  · have := kept_lt hk.len hi
    omega
  · obtain ⟨i, x, hx, hS, hp, rfl⟩ := keptL_inv hk.len hy
    have hsec := kept_sec hk j i hp hS
    rw [hs] at hsec
    rw [← hp]
    exact kept_wrong hv hok hk hx hS hsec.symm
theorem kept_begins (hv : Va l) (hok : InsOk l) (hk : KeepP l S) {b : Int} (hb : b ∈ beginsL (keptL l S)) : ∃ a : Nat, (a : Int) ∈ beginsL l ∧ b = placeC S a := by
  have hz := slots_of hv.one hv.most hv.wr
  rcases ((begins_ok (kept_slots hv hok hk)).2.1 b).1 hb with rfl | ⟨j, hj, ht⟩
  · exact ⟨0, ((begins_ok hz).2.1 0).2 (.inl rfl), by simp [placeC]⟩
  · unfold tgtC at ht
    cases hy : (keptL l S)[j]? with
    | none => rw [hy] at ht; cases ht
    | some y =>
      cases hs : (secL (keptL l S))[j]? with
      | none => rw [hy, hs] at ht; cases ht
      | some bb =>
        rw [hy, hs] at ht
        cases bb
        case true => cases ht
        case false =>
          simp only at ht
          split at ht
          · rename_i hc
            obtain ⟨i, x, hx, hS, hp, rfl⟩ := keptL_inv hk.len hy
            have hsec := kept_sec hk j i hp hS
            rw [hs] at hsec
            obtain ⟨eo, _, es⟩ := fix_op (l := l) (S := S) i x
            rw [call_op eo es] at hc
            rcases fix_cases hv hok hk hx hS with ⟨hb2, _⟩ | ⟨_, _, hc2, _⟩ | ⟨_, _, _, a, m, ea, hnx, hsm, hp1, e⟩ | ⟨_, _, hc2, _⟩
            · rw [← hsec] at hb2; cases hb2
            · rw [hc] at hc2; cases hc2
            · rw [e] at ht
              simp only [Option.some.injEq] at ht
              refine ⟨a, ((begins_ok hz).2.1 a).2 (.inr ⟨i, (List.getElem?_eq_some_iff.1 hx).1, ?_⟩), ?_⟩
              · unfold tgtC
                rw [hx, ← hsec]
                simp [hc, ea]
              · rw [place_nx hnx, ← ht, ← hp]
                omega
            · rw [hc] at hc2; cases hc2
          · cases ht
theorem kept_same (hv : Va l) (hok : InsOk l) (hk : KeepP l S) {i m : Nat} (hi : S[i]? = some true) (hm : S[m]? = some true) (h : SameP l i m) : SameP (keptL l S) (placeC S i) (placeC S m) := fun b hb => by
  obtain ⟨a, ha, rfl⟩ := kept_begins hv hok hk hb
  have h1 := place_le_iff (a := a) hi
  have h2 := place_le_iff (a := a) hm
  have h3 := h a ha
  constructor
  · intro h4
    have := h1.1 (by omega)
    have := h3.1 (by omega)
    have := h2.2 (by omega)
    omega
  · intro h4
    have := h2.1 (by omega)
    have := h3.2 (by omega)
    have := h1.2 (by omega)
    omega
theorem place_beh (hv : Va l) (hk : KeepP l S) {i : Nat} {x y : In} (hx : l[i]? = some x) (hS : S[i]? = some true) (hs : (secL l)[i]? = some false) (hb : behI i x < l.length) (e : y.op = x.op) : behI (placeC S i) y = placeC S (behI i x) := by
  unfold behI at hb ⊢
  rw [e]
  by_cases h24 : x.op = 24
  · rw [if_pos h24] at hb ⊢
    rw [if_pos h24]
    obtain ⟨_, hS1⟩ := kept_second hk hx hS hs h24 (by omega)
    rw [show i + 2 = i + 1 + 1 by omega, place_step hS1, place_step hS]
  · rw [if_neg h24] at hb ⊢
    rw [if_neg h24, place_step hS]
theorem keep_va (hv : Va l) (hok : InsOk l) (hk : KeepP l S) : Va (keptL l S) := by
  have hz' := kept_slots hv hok hk
  obtain ⟨h1, h2, h3⟩ := slots_zero hz'
  refine ⟨h1, h2, fun j y hy hs => ?_, ?_, fun j y hy hs h149 h5 => ?_, fun j y hy hs hj => ?_⟩
  · have := h3 j (List.getElem?_eq_some_iff.1 hy).1
    rwa [slot_wrong hy hs] at this
  · have hsub := len_le_of_sub (rising_nodup (begins_ok hz').1) (b := (beginsL l).map (fun b => (placeC S b.toNat : Int))) (fun b hb => by
      obtain ⟨a, ha, rfl⟩ := kept_begins hv hok hk hb
      exact List.mem_map.2 ⟨(a : Int), ha, by simp⟩)
    rw [List.length_map] at hsub
    have := hv.few
    omega
  · obtain ⟨i, x, hx, hS, hp, rfl⟩ := keptL_inv hk.len hy
    have hsec := kept_sec hk j i hp hS
    rw [hs] at hsec
    obtain ⟨eo, _, _⟩ := fix_op (l := l) (S := S) i x
    rw [eo] at h149 h5
    obtain ⟨m, hnx, hsm, hsame⟩ := hk.fall i x hx hS hsec.symm h149 h5
    have hb := (hv.fall i x hx hsec.symm h149 h5).1
    have e := place_beh hv hk hx hS hsec.symm hb eo
    rw [hp] at e
    rw [e, place_nx hnx]
    refine ⟨kept_lt hk.len hnx.2.1, (kept_sec hk _ m rfl hnx.2.1).trans hsm, ?_⟩
    rw [← hp]
    exact kept_same hv hok hk hS hnx.2.1 hsame
  · obtain ⟨i, x, hx, hS, hp, rfl⟩ := keptL_inv hk.len hy
    have hsec := kept_sec hk j i hp hS
    rw [hs] at hsec
    obtain ⟨eo, _, _⟩ := fix_op (l := l) (S := S) i x
    have hjx : isJumpB x = true := by
      rw [← hj]
      unfold isJumpB clsI codeI
      rw [eo]
    rcases fix_cases hv hok hk hx hS with ⟨hb2, _⟩ | ⟨_, _, _, a, m, ea, hnx, hsm, hsame, e⟩ | ⟨_, hj2, _⟩ | ⟨_, hj2, _⟩
    · rw [← hsec] at hb2; cases hb2
    · rw [e]
      refine ⟨placeC S m, by rw [← hp]; simp only; omega, kept_lt hk.len hnx.2.1, (kept_sec hk _ m rfl hnx.2.1).trans hsm, ?_⟩
      rw [← hp]
      exact kept_same hv hok hk hS hnx.2.1 hsame
    · rw [hjx] at hj2; cases hj2
    · rw [hjx] at hj2; cases hj2
/-- ways stay ways -/
theorem succ_place (hv : Va l) (hok : InsOk l) (hk : KeepP l S) {i j : Nat} (hS : S[i]? = some true) (hs : (secL l)[i]? = some false) (hj : (j : Int) ∈ succL l i) : (placeC S j : Int) ∈ succL (keptL l S) (placeC S i) := by
  have hil : i < l.length := by have := (List.getElem?_eq_some_iff.1 hS).1; have := hk.len; omega
  obtain ⟨x, hx⟩ : ∃ x, l[i]? = some x := ⟨_, List.getElem?_eq_getElem hil⟩
  rw [succ_at hx, List.mem_append] at hj
  rw [succ_at (keptL_at hk.len hS hx), List.mem_append]
  obtain ⟨eo, _, es⟩ := fix_op (l := l) (S := S) i x
  have ejmp : isJumpB (fixC l S i x) = isJumpB x := by unfold isJumpB clsI codeI; rw [eo]
  have hst := place_step hS
  rcases hj with hj | hj
  · left
    unfold nextC at hj ⊢
    rw [eo, ejmp]
    split at hj
    · cases hj
    rename_i h149
    rw [if_neg h149]
    split at hj
    · rename_i h24
      rw [if_pos h24]
      have h24 : x.op = 24 := by simpa using h24
      have ej : j = i + 2 := by have := List.mem_singleton.1 hj; omega
      have hf := (hv.fall i x hx hs (by omega) (by omega)).1
      have e := place_beh hv hk hx hS hs hf (y := x) rfl
      unfold behI at e
      rw [if_pos h24, if_pos h24] at e
      rw [List.mem_singleton, ej, ← e]
      omega
    rename_i h24
    rw [if_neg h24]
    split at hj
    · rename_i hnj
      rw [if_pos hnj]
      have ej : j = i + 1 := by have := List.mem_singleton.1 hj; omega
      rw [List.mem_singleton, ej, hst]
      omega
    rename_i hnj
    rw [if_neg hnj]
    have hjj : isJumpB x = true := by simpa using hnj
    rcases fix_cases hv hok hk hx hS with ⟨hb2, _⟩ | ⟨_, _, _, a, m, ea, hnx, hsm, hsame, e⟩ | ⟨_, hj2, _⟩ | ⟨_, hj2, _⟩
    · rw [hs] at hb2; cases hb2
    · have hpa := place_nx hnx
      rw [e]
      simp only
      have hcase : j = a ∨ (j = i + 1 ∧ x.op ≠ 5) := by
        split at hj
        · left
          have := List.mem_singleton.1 hj
          omega
        · rename_i h50
          simp only [Bool.or_eq_true, beq_iff_eq, not_or] at h50
          rcases List.mem_cons.1 hj with hj | hj
          · exact .inr ⟨by omega, h50.1⟩
          · have := List.mem_singleton.1 hj
            exact .inl (by omega)
      rcases hcase with rfl | ⟨rfl, h5⟩
      · rw [hpa]
        split
        · rw [List.mem_singleton]; omega
        · exact List.mem_cons_of_mem _ (by rw [List.mem_singleton]; omega)
      · rw [hst]
        split
        · rename_i h50
          simp only [Bool.or_eq_true, beq_iff_eq] at h50
          rcases h50 with h50 | h50
          · exact absurd h50 h5
          · rw [List.mem_singleton]; omega
        · rw [List.mem_cons]
          left
          omega
    · rw [hjj] at hj2; cases hj2
    · rw [hjj] at hj2; cases hj2
  · right
    unfold namC at hj ⊢
    rw [call_op eo es]
    split at hj
    · rename_i hc
      rw [if_pos hc]
      rcases fix_cases hv hok hk hx hS with ⟨hb2, _⟩ | ⟨_, _, hc2, _⟩ | ⟨_, _, _, a, m, ea, hnx, hsm, hp1, e⟩ | ⟨_, _, hc2, _⟩
      · rw [hs] at hb2; cases hb2
      · rw [hc] at hc2; cases hc2
      · have : (j : Int) = (i : Int) + 1 + x.imm := by simpa using hj
        obtain rfl : j = a := by omega
        rw [e, place_nx hnx]
        simp only [Option.toList_some, List.mem_singleton]
        omega
      · rw [hc] at hc2; cases hc2
    · simp at hj
end

end Go.Proofs.Ytdgniibolfahaaa
set_option linter.unusedSimpArgs false
set_option linter.unusedVariables false
namespace Go.Proofs.Ytdgniibolfahaaa
open Go.RowKit

/-! ### what is trimmed -/
noncomputable def stayB (l : List In) (i : Nat) : Bool := if (secL l)[i]? = some true then (rchL l).getD (i - 1) false else (rchL l).getD i false
noncomputable def stayL (l : List In) : List Bool := (List.range l.length).map (stayB l)
def dropL (n a : Nat) : List Bool := (List.range n).map (fun i => i != a)
def idleC' (l : List In) : Option Nat := if idleC l < 0 then none else some (idleC l).toNat
def renum (n s : List Int) : List Int := s.map (fun j => n.getD j.toNat 0)
def trimG : Nat → List In → List Int → List In × List Int
  | 0, t, n => (t, n)
  | f + 1, t, n => if idleC t < 0 then (t, n) else trimG f (keptL t (dropL t.length (idleC t).toNat)) (renum n (outL (dropL t.length (idleC t).toNat) t.length))
noncomputable def trimL (l : List In) : List In × List Int := trimG l.length (keptL l (stayL l)) (outL (stayL l) l.length)
theorem stay_at {l : List In} {i : Nat} (hi : i < l.length) : (stayL l)[i]? = some (stayB l i) := by
  unfold stayL
  rw [List.getElem?_map, range_take _ _ hi]
  rfl
theorem rch_getD {l : List In} {i : Nat} : (rchL l).getD i false = true ↔ i < l.length ∧ Rch l i := by
  by_cases hi : i < l.length
  · rw [List.getD_eq_getElem?_getD, rchL_get hi]
    simp [hi]
  · rw [List.getD_eq_getElem?_getD, List.getElem?_eq_none (by rw [rchL_len]; omega)]
    simp [hi]
theorem stay_false {l : List In} {i : Nat} (hi : i < l.length) (hs : (secL l)[i]? = some false) : (stayL l)[i]? = some true ↔ Rch l i := by
  rw [stay_at hi]
  unfold stayB
  rw [if_neg (by rw [hs]; simp), Option.some.injEq, rch_getD]
  simp [hi]
theorem rch_next {l : List In} (hc : checkI l = 0) {i n : Nat} {x : In} (hr : Rch l i) (hx : l[i]? = some x) (hn : (n : Int) ∈ nextC i x) : Rch l n :=
  .step hr (by rw [succ_at hx]; exact List.mem_append_left _ hn)
theorem stay_keep {l : List In} (hc : checkI l = 0) (hok : InsOk l) : KeepP l (stayL l) := by
  have hv := va_of hc
  have hz := slots_of hv.one hv.most hv.wr
  have hl : (stayL l).length = l.length := by simp [stayL]
  have hr : ∀ {i : Nat} {x : In}, l[i]? = some x → (stayL l)[i]? = some true → (secL l)[i]? = some false → Rch l i := fun hx hS hs => (stay_false (List.getElem?_eq_some_iff.1 hx).1 hs).1 hS
  have hS : ∀ {n : Nat}, Rch l n → (stayL l)[n]? = some true := fun h => (stay_false (rch_ok hc h).1 (rch_ok hc h).2).2 h
  refine ⟨hl, fun i hs => ?_, ⟨0, hS Rch.zero⟩, fun i x hx hSi hs h149 h5 => ?_, fun i x hx hSi hs hj => ?_, fun i x hx hSi hs hcl => ?_⟩
  · have hi : i + 1 < l.length := by
      have := (List.getElem?_eq_some_iff.1 hs).1
      rw [sec_len] at this
      exact this
    have hsi : (secL l)[i]? = some false := by
      obtain ⟨b, hb⟩ := sec_get (l := l) (i := i) (by omega)
      obtain ⟨x, hx⟩ : ∃ x, l[i]? = some x := ⟨_, List.getElem?_eq_getElem (by omega)⟩
      have := sec_succ hx hb hi
      rw [hs] at this
      cases b
      · exact hb
      · simp at this
    rw [stay_at hi, stay_at (by omega)]
    unfold stayB
    rw [if_pos hs, if_neg (by rw [hsi]; simp)]
    rfl
  · obtain ⟨a, b, c⟩ := hv.fall i x hx hs h149 h5
    have hnx : (behI i x : Int) ∈ nextC i x ∨ isJumpB x = true := by
      unfold nextC behI
      have e149 : (x.op == 149) = false := by simpa using h149
      rw [if_neg (by rw [e149]; simp)]
      by_cases h24 : x.op = 24
      · left
        rw [if_pos (by simpa using h24), if_pos h24]
        simp
      · have e24 : (x.op == 24) = false := by simpa using h24
        rw [if_neg (by rw [e24]; simp), if_neg h24]
        cases hj : isJumpB x
        · left; simp
        · right; rfl
    have hrn : Rch l (behI i x) := by
      rcases hnx with h | h
      · exact rch_next hc (hr hx hSi hs) hx h
      · obtain ⟨n, en, hn1, hn2, hn3⟩ := hv.jmp i x hx hs h
        refine rch_next hc (hr hx hSi hs) hx ?_
        have e149 : (x.op == 149) = false := by simpa using h149
        have h24 : x.op ≠ 24 := fun e => by rw [wide_nojump e] at h; cases h
        have e24 : (x.op == 24) = false := by simpa using h24
        have e5 : (x.op == 5) = false := by simpa using h5
        unfold nextC behI
        rw [if_neg (by rw [e149]; simp), if_neg (by rw [e24]; simp), if_neg h24, if_neg (by rw [h]; simp)]
        split
        · rename_i h50
          simp only [Bool.or_eq_true, beq_iff_eq] at h50
          rcases h50 with h50 | h50
          · exact absurd h50 h5
          · rw [List.mem_singleton]
            omega
        · rw [List.mem_cons]
          left
          omega
    exact ⟨_, ⟨Nat.le_refl _, hS hrn, fun j h1 h2 => by omega⟩, b, c⟩
  · obtain ⟨n, en, hn1, hn2, hn3⟩ := hv.jmp i x hx hs hj
    refine ⟨n, n, en, ⟨Nat.le_refl _, hS ?_, fun j h1 h2 => by omega⟩, hn2, hn3⟩
    refine rch_next hc (hr hx hSi hs) hx ?_
    have h149 : (x.op == 149) = false := by
      cases e : (x.op == 149)
      · rfl
      · rw [exit_nojump (by simpa using e)] at hj; cases hj
    have h24 : (x.op == 24) = false := by
      cases e : (x.op == 24)
      · rfl
      · rw [wide_nojump (by simpa using e)] at hj; cases hj
    unfold nextC
    rw [if_neg (by rw [h149]; simp), if_neg (by rw [h24]; simp), if_neg (by rw [hj]; simp), en]
    split <;> simp
  · obtain ⟨n, en, h1, h2, h3⟩ := nam_ok hc hx hs hcl
    have hrn : Rch l n := .step (hr hx hSi hs) (by
      rw [succ_at hx]
      refine List.mem_append_right _ ?_
      unfold namC
      rw [if_pos hcl, en]
      simp)
    refine ⟨n, n, en, ⟨Nat.le_refl _, hS hrn, fun j h1 h2 => by omega⟩, h3, ?_⟩
    have := place_lt (hS Rch.zero) (show 0 < n by omega)
    omega
theorem drop_at {n a i : Nat} (hi : i < n) : (dropL n a)[i]? = some (i != a) := by
  unfold dropL
  rw [List.getElem?_map, range_take _ _ hi]
  rfl
theorem drop_true {n a i : Nat} : (dropL n a)[i]? = some true ↔ i < n ∧ i ≠ a := by
  by_cases hi : i < n
  · rw [drop_at hi]
    simp [hi]
  · rw [List.getElem?_eq_none (by simp [dropL]; omega)]
    simp [hi]
theorem idle_at {l : List In} {a : Nat} : ∀ (n i : Nat), idleS l i n = a → idleB l a = true ∧ i ≤ a ∧ a < i + n
  | 0, i, h => by
    have : (-1 : Int) = a := h
    omega
  | n + 1, i, h => by
    unfold idleS at h
    split at h
    · rename_i hb
      obtain rfl : i = a := by omega
      exact ⟨hb, Nat.le_refl _, by omega⟩
    · obtain ⟨h1, h2, h3⟩ := idle_at n (i + 1) h
      exact ⟨h1, by omega, by omega⟩
theorem idle_none {l : List In} : ∀ (n i : Nat), idleS l i n < 0 → ∀ k, i ≤ k → k < i + n → idleB l k = false
  | 0, i, _, k, h1, h2 => by omega
  | n + 1, i, h, k, h1, h2 => by
    unfold idleS at h
    split at h
    · omega
    · rename_i hb
      rcases Nat.eq_or_lt_of_le h1 with rfl | hlt
      · simpa using hb
      · exact idle_none n (i + 1) h k hlt (by omega)
theorem idle_get {l : List In} {a : Nat} (h : idleB l a = true) : ∃ x, l[a]? = some x ∧ (secL l)[a]? = some false ∧ x.op = 5 ∧ x.off = 0 := by
  unfold idleB at h
  cases hx : l[a]? with
  | none => rw [hx] at h; cases h
  | some x =>
    cases hs : (secL l)[a]? with
    | none => rw [hx, hs] at h; cases h
    | some b =>
      rw [hx, hs] at h
      cases b
      case true => cases h
      case false =>
        simp only [Bool.and_eq_true, beq_iff_eq] at h
        exact ⟨x, rfl, rfl, h.1, h.2⟩
/-- the slot behind an idle Ja -/
theorem idle_behind {l : List In} (hv : Va l) {a : Nat} (h : idleB l a = true) : a + 1 < l.length ∧ (secL l)[a + 1]? = some false ∧ SameP l a (a + 1) := by
  obtain ⟨x, hx, hs, h5, h0⟩ := idle_get h
  obtain ⟨n, en, h1, h2, h3⟩ := hv.jmp a x hx hs (ja_jump h5)
  obtain rfl : n = a + 1 := by omega
  exact ⟨h1, h2, h3⟩
theorem drop_nx {l : List In} (hv : Va l) {a : Nat} (h : idleB l a = true) {b : Nat} (hb : b < l.length) (hbs : (secL l)[b]? = some false) : ∃ m, NX (dropL l.length a) b m ∧ (secL l)[m]? = some false ∧ SameP l b m := by
  by_cases e : b = a
  · subst e
    obtain ⟨h1, h2, h3⟩ := idle_behind hv h
    refine ⟨b + 1, ⟨by omega, drop_true.2 ⟨h1, by omega⟩, fun j h4 h5 h6 => ?_⟩, h2, h3⟩
    have := (drop_true.1 h6).2
    omega
  · exact ⟨b, ⟨Nat.le_refl _, drop_true.2 ⟨hb, e⟩, fun j h1 h2 => by omega⟩, hbs, fun _ _ => Iff.rfl⟩
theorem drop_keep {l : List In} (hv : Va l) {a : Nat} (h : idleB l a = true) : KeepP l (dropL l.length a) := by
  obtain ⟨xa, hxa, hsa, h5a, h0a⟩ := idle_get h
  obtain ⟨hb1, hb2, hb3⟩ := idle_behind hv h
  have hz := slots_of hv.one hv.most hv.wr
  have hc := check_va hv
  refine ⟨by simp [dropL], fun i hs => ?_, ⟨a + 1, drop_true.2 ⟨hb1, by omega⟩⟩, fun i x hx hSi hs h149 h5 => ?_, fun i x hx hSi hs hj => ?_, fun i x hx hSi hs hcl => ?_⟩
  · have hi : i + 1 < l.length := by
      have := (List.getElem?_eq_some_iff.1 hs).1
      rw [sec_len] at this
      exact this
    rw [drop_at hi, drop_at (by omega)]
    have e1 : i + 1 ≠ a := fun e => by rw [e, hsa] at hs; cases hs
    have e2 : i ≠ a := fun e => by rw [e, hb2] at hs; cases hs
    congr 1
    rw [bne_iff_ne.2 e1, bne_iff_ne.2 e2]
  · obtain ⟨a1, a2, a3⟩ := hv.fall i x hx hs h149 h5
    obtain ⟨m, h1, h2, h3⟩ := drop_nx hv h a1 a2
    exact ⟨m, h1, h2, a3.trans h3⟩
  · obtain ⟨n, en, hn1, hn2, hn3⟩ := hv.jmp i x hx hs hj
    obtain ⟨m, h1, h2, h3⟩ := drop_nx hv h hn1 hn2
    exact ⟨n, m, en, h1, h2, hn3.trans h3⟩
  · obtain ⟨n, en, h1, h2, h3⟩ := nam_ok hc hx hs hcl
    obtain ⟨m, h4, h5, h6⟩ := drop_nx hv h h2 h3
    refine ⟨n, m, en, h4, h5, ?_⟩
    have hle := h4.1
    by_cases ha : a = 0
    · subst ha
      have hm2 : 2 ≤ m := by
        rcases Nat.lt_or_ge m 2 with h7 | h7
        · exfalso
          obtain rfl : n = 1 := by omega
          have hbg : (1 : Int) ∈ beginsL l := ((begins_ok hz).2.1 1).2 (.inr ⟨i, (List.getElem?_eq_some_iff.1 hx).1, by
            unfold tgtC
            rw [hx, hs]
            simp [hcl]
            omega⟩)
          have := (hb3 1 hbg).2 (by simp)
          simp at this
        · exact h7
      have := place_lt (S := dropL l.length 0) (i := 1) (j := m) (drop_true.2 ⟨hb1, by omega⟩) (by omega)
      omega
    · have := place_lt (S := dropL l.length a) (i := 0) (j := m) (drop_true.2 ⟨hv.one, by omega⟩) (by omega)
      omega
/-! ### all is reached -/
def AllR (l : List In) : Prop := ∀ i, i < l.length → (secL l)[i]? = some false → Rch l i
theorem stay_allr {l : List In} (hc : checkI l = 0) (hok : InsOk l) : AllR (keptL l (stayL l)) := by
  have hv := va_of hc
  have hk := stay_keep hc hok
  have hS : ∀ {n : Nat}, Rch l n → (stayL l)[n]? = some true := fun h => (stay_false (rch_ok hc h).1 (rch_ok hc h).2).2 h
  have hmap : ∀ {n : Nat}, Rch l n → Rch (keptL l (stayL l)) (placeC (stayL l) n) := fun h => by
    induction h with
    | zero => exact Rch.zero
    | step hi hj ih => exact .step ih (succ_place hv hok hk (hS hi) (rch_ok hc hi).2 hj)
  intro j hj hs
  obtain ⟨y, hy⟩ : ∃ y, (keptL l (stayL l))[j]? = some y := ⟨_, List.getElem?_eq_getElem hj⟩
  obtain ⟨i, x, hx, hSi, hp, rfl⟩ := keptL_inv hk.len hy
  have hsec := kept_sec hk j i hp hSi
  rw [hs] at hsec
  rw [← hp]
  exact hmap ((stay_false (List.getElem?_eq_some_iff.1 hx).1 hsec.symm).1 hSi)
theorem drop_allr {l : List In} (hv : Va l) (hok : InsOk l) {a : Nat} (h : idleB l a = true) (hr : AllR l) : AllR (keptL l (dropL l.length a)) := by
  have hk := drop_keep hv h
  have hc := check_va hv
  obtain ⟨xa, hxa, hsa, h5a, h0a⟩ := idle_get h
  have hmap : ∀ {n : Nat}, Rch l n → Rch (keptL l (dropL l.length a)) (placeC (dropL l.length a) n) := fun h => by
    induction h with
    | zero => exact Rch.zero
    | step hi hj ih =>
      rename_i i j
      by_cases e : i = a
      · subst e
        rw [succ_at hxa] at hj
        have hj1 : j = i + 1 := by
          rcases List.mem_append.1 hj with hj | hj
          · unfold nextC at hj
            rw [if_neg (by rw [h5a]; decide), if_neg (by rw [h5a]; decide), if_neg (by rw [ja_jump h5a]; simp), if_pos (by rw [h5a]; rfl)] at hj
            have := List.mem_singleton.1 hj
            omega
          · unfold namC at hj
            have : isCallB xa = false := by unfold isCallB; rw [h5a]; rfl
            rw [this] at hj
            simp at hj
        rw [hj1, place_skip (fun e => (drop_true.1 e).2 rfl)]
        exact ih
      · exact .step ih (succ_place hv hok hk (drop_true.2 ⟨(rch_ok hc hi).1, e⟩) (rch_ok hc hi).2 hj)
  intro j hj hs
  obtain ⟨y, hy⟩ : ∃ y, (keptL l (dropL l.length a))[j]? = some y := ⟨_, List.getElem?_eq_getElem hj⟩
  obtain ⟨i, x, hx, hSi, hp, rfl⟩ := keptL_inv hk.len hy
  have hsec := kept_sec hk j i hp hSi
  rw [hs] at hsec
  rw [← hp]
  exact hmap (hr i (List.getElem?_eq_some_iff.1 hx).1 hsec.symm)

end Go.Proofs.Ytdgniibolfahaaa
set_option linter.unusedSimpArgs false
set_option linter.unusedVariables false
namespace Go.Proofs.Ytdgniibolfahaaa
open Go.RowKit

/-! ### the numbers of what is kept -/
structure NumOk (l t : List In) (n : List Int) : Prop where
  len : n.length = t.length
  rise : n.Pairwise (· < ·)
  same : ∀ (i : Nat) (y : In), t[i]? = some y → ∃ (k : Nat) (x : In), n[i]? = some (k : Int) ∧ l[k]? = some x ∧ x.op = y.op ∧ x.dst = y.dst ∧ x.src = y.src
theorem out_rise (S : List Bool) (n : Nat) : (outL S n).Pairwise (· < ·) := by
  unfold outL
  refine List.Pairwise.filterMap _ ?_ List.pairwise_lt_range
  intro a b hab t ht u hu
  split at ht
  · split at hu
    · cases ht
      cases hu
      exact Int.ofNat_lt.2 hab
    · cases hu
  · cases ht
theorem kept_num {l : List In} {S : List Bool} (h : S.length = l.length) : NumOk l (keptL l S) (outL S l.length) where
  len := by
    rw [keptL_len h]
    exact (kept_len (l := l) _ (Nat.le_refl _) (by omega)).2
  rise := out_rise S l.length
  same j y hy := by
    obtain ⟨i, x, hx, hS, hp, rfl⟩ := keptL_inv h hy
    have := (kept_at h l.length i (Nat.le_refl _) (List.getElem?_eq_some_iff.1 hx).1 hS x hx).2
    rw [hp] at this
    obtain ⟨a, b, c⟩ := fix_op (l := l) (S := S) i x
    exact ⟨i, x, this, hx, a.symm, b.symm, c.symm⟩
theorem num_trans {l t u : List In} {n s : List Int} (h : NumOk l t n) (k : NumOk t u s) : NumOk l u (renum n s) where
  len := by unfold renum; rw [List.length_map]; exact k.len
  rise := by
    unfold renum
    rw [List.pairwise_map]
    refine List.pairwise_iff_getElem.2 fun i j hi hj hij => ?_
    have hsi := List.pairwise_iff_getElem.1 k.rise i j hi hj hij
    obtain ⟨yi, hyi⟩ : ∃ y, u[i]? = some y := ⟨_, List.getElem?_eq_getElem (by rw [← k.len]; exact hi)⟩
    obtain ⟨yj, hyj⟩ : ∃ y, u[j]? = some y := ⟨_, List.getElem?_eq_getElem (by rw [← k.len]; exact hj)⟩
    obtain ⟨ki, xi, e1, e2, _⟩ := k.same i yi hyi
    obtain ⟨kj, xj, e3, e4, _⟩ := k.same j yj hyj
    rw [List.getElem?_eq_getElem hi] at e1
    rw [List.getElem?_eq_getElem hj] at e3
    rw [Option.some.inj e1, Option.some.inj e3] at hsi ⊢
    have hki : ki < n.length := by rw [h.len]; exact (List.getElem?_eq_some_iff.1 e2).1
    have hkj : kj < n.length := by rw [h.len]; exact (List.getElem?_eq_some_iff.1 e4).1
    rw [Int.toNat_natCast, Int.toNat_natCast, List.getD_eq_getElem?_getD, List.getD_eq_getElem?_getD, List.getElem?_eq_getElem hki, List.getElem?_eq_getElem hkj]
    exact List.pairwise_iff_getElem.1 h.rise ki kj hki hkj (by omega)
  same i y hy := by
    obtain ⟨k1, x1, e1, e2, e3, e4, e5⟩ := k.same i y hy
    obtain ⟨k2, x2, f1, f2, f3, f4, f5⟩ := h.same k1 x1 e2
    refine ⟨k2, x2, ?_, f2, f3.trans e3, f4.trans e4, f5.trans e5⟩
    unfold renum
    rw [List.getElem?_map, e1]
    simp only [Option.map_some, Int.toNat_natCast, List.getD_eq_getElem?_getD, f1, Option.getD_some]
structure Inv (l t : List In) (n : List Int) : Prop where
  va : Va t
  ok : InsOk t
  rch : AllR t
  num : NumOk l t n
  le : t.length ≤ l.length
theorem kept_le {l : List In} {S : List Bool} (h : S.length = l.length) : (keptL l S).length ≤ l.length := by
  rw [keptL_len h]
  exact place_le _ _
theorem inv_first {l : List In} (hc : checkI l = 0) (hok : InsOk l) : Inv l (keptL l (stayL l)) (outL (stayL l) l.length) where
  va := keep_va (va_of hc) hok (stay_keep hc hok)
  ok := kept_ok (va_of hc) hok (stay_keep hc hok)
  rch := stay_allr hc hok
  num := kept_num (stay_keep hc hok).len
  le := kept_le (stay_keep hc hok).len
theorem inv_step {l t : List In} {n : List Int} (h : Inv l t n) {a : Nat} (ha : idleB t a = true) : Inv l (keptL t (dropL t.length a)) (renum n (outL (dropL t.length a) t.length)) where
  va := keep_va h.va h.ok (drop_keep h.va ha)
  ok := kept_ok h.va h.ok (drop_keep h.va ha)
  rch := drop_allr h.va h.ok ha h.rch
  num := num_trans h.num (kept_num (drop_keep h.va ha).len)
  le := Nat.le_trans (kept_le (drop_keep h.va ha).len) h.le
theorem drop_short {t : List In} {a : Nat} (ha : idleB t a = true) (hv : Va t) : (keptL t (dropL t.length a)).length < t.length := by
  obtain ⟨x, hx, _⟩ := idle_get ha
  have hal := (List.getElem?_eq_some_iff.1 hx).1
  rw [keptL_len (drop_keep hv ha).len]
  have h1 : placeC (dropL t.length a) (a + 1) = placeC (dropL t.length a) a := place_skip (fun e => (drop_true.1 e).2 rfl)
  have h2 := place_le (dropL t.length a) a
  have h3 : ∀ d, a + 1 + d ≤ t.length → placeC (dropL t.length a) (a + 1 + d) ≤ placeC (dropL t.length a) (a + 1) + d := by
    intro d
    induction d with
    | zero => intro _; exact Nat.le_refl _
    | succ d ih =>
      intro hd
      have := ih (by omega)
      by_cases e : (dropL t.length a)[a + 1 + d]? = some true
      · have := place_step e
        rw [← Nat.add_assoc]
        omega
      · have := place_skip e
        rw [← Nat.add_assoc]
        omega
  have := h3 (t.length - (a + 1)) (by omega)
  rw [show a + 1 + (t.length - (a + 1)) = t.length by omega] at this
  omega
theorem idle_of {t : List In} (h : ¬ idleC t < 0) : idleB t (idleC t).toNat = true :=
  (idle_at t.length 0 (by show idleC t = _; rw [Int.toNat_of_nonneg (by omega)])).1
theorem trimG_inv {l : List In} : ∀ (f : Nat) (t : List In) (n : List Int), Inv l t n → t.length ≤ f → Inv l (trimG f t n).1 (trimG f t n).2 ∧ idleC (trimG f t n).1 < 0
  | 0, t, n, h, hf => by
    have := h.va.one
    omega
  | f + 1, t, n, h, hf => by
    unfold trimG
    by_cases hi : idleC t < 0
    · rw [if_pos hi]
      exact ⟨h, hi⟩
    · rw [if_neg hi]
      have hb := idle_of hi
      exact trimG_inv f _ _ (inv_step h hb) (by have := drop_short hb h.va; omega)
theorem trim_inv {l : List In} (hc : checkI l = 0) (hok : InsOk l) : Inv l (trimL l).1 (trimL l).2 ∧ idleC (trimL l).1 < 0 :=
  trimG_inv _ _ _ (inv_first hc hok) (kept_le (stay_keep hc hok).len)
/-- all kept: the same -/
theorem kept_all {l : List In} (hv : Va l) (hok : InsOk l) {S : List Bool} (hS : S.length = l.length) (hall : ∀ i, i < l.length → S[i]? = some true) : keptL l S = l := by
  have hpl : ∀ i, i ≤ l.length → placeC S i = i := by
    intro i
    induction i with
    | zero => intro _; rfl
    | succ i ih =>
      intro hi
      rw [place_step (hall i (by omega)), ih (by omega)]
  apply List.ext_getElem?
  intro i
  by_cases hi : i < l.length
  · obtain ⟨x, hx⟩ : ∃ x, l[i]? = some x := ⟨_, List.getElem?_eq_getElem hi⟩
    have := keptL_at hS (hall i hi) hx
    rw [hpl i (by omega)] at this
    rw [this, hx]
    congr 1
    obtain ⟨b, hb⟩ := sec_get hi
    unfold fixC
    cases b
    case true => rw [if_pos hb]
    case false =>
      rw [if_neg (by rw [hb]; simp), (fj_of hv hok hx hb).1]
      have hc := check_va hv
      split
      · rename_i hj
        obtain ⟨n, en, h1, _⟩ := hv.jmp i x hx hb hj
        rw [en, Int.toNat_natCast, hpl n (by omega), hpl i (by omega)]
        have : (n : Int) - ((i : Int) + 1) = x.off := by omega
        rw [this]
      · split
        · rename_i hcl
          obtain ⟨n, en, _, h1, _⟩ := nam_ok hc hx hb hcl
          rw [en, Int.toNat_natCast, hpl n (by omega), hpl i (by omega)]
          have : (n : Int) - ((i : Int) + 1) = x.imm := by omega
          rw [this]
        · rfl
  · rw [List.getElem?_eq_none (by rw [keptL_len hS, hpl _ (Nat.le_refl _)]; omega), List.getElem?_eq_none (by omega)]
theorem stay_all {t : List In} (hv : Va t) (hr : AllR t) : ∀ i, i < t.length → (stayL t)[i]? = some true := fun i hi => by
  obtain ⟨b, hb⟩ := sec_get hi
  cases b
  case false => exact (stay_false hi hb).2 (hr i hi hb)
  case true =>
    obtain ⟨q, rfl⟩ : ∃ q, i = q + 1 := ⟨i - 1, by
      rcases Nat.eq_zero_or_pos i with rfl | h
      · rw [sec_zero (by omega)] at hb; cases hb
      · omega⟩
    have hsq : (secL t)[q]? = some false := by
      obtain ⟨b2, hb2⟩ := sec_get (l := t) (i := q) (by omega)
      obtain ⟨x, hx⟩ : ∃ x, t[q]? = some x := ⟨_, List.getElem?_eq_getElem (by omega)⟩
      have := sec_succ hx hb2 hi
      rw [hb] at this
      cases b2
      · exact hb2
      · simp at this
    rw [stay_at hi]
    unfold stayB
    rw [if_pos hb]
    congr 1
    exact rch_getD.2 ⟨by omega, hr q (by omega) hsq⟩
theorem trim_self {t : List In} (hv : Va t) (hok : InsOk t) (hr : AllR t) (hi : idleC t < 0) : (trimL t).1 = t := by
  unfold trimL
  have hl : (stayL t).length = t.length := by simp [stayL]
  rw [kept_all hv hok hl (stay_all hv hr)]
  obtain ⟨f, hf⟩ : ∃ f, t.length = f + 1 := ⟨t.length - 1, by have := hv.one; omega⟩
  rw [hf]
  unfold trimG
  rw [if_pos hi]
theorem keepOk_of {l : List In} {S : List Bool} (hv : Va l) (hok : InsOk l) (hk : KeepP l S) : KeepOk l S where
  len := hk.len
  jmp i x hx hS hs hj := by
    rw [(fj_of hv hok hx hs).1] at hj
    obtain ⟨n, en, h1, _⟩ := hv.jmp i x hx hs hj
    exact ⟨n, en, by omega⟩
  nam i x hx hS hs _ hc := by
    obtain ⟨n, en, _, h1, _⟩ := nam_ok (check_va hv) hx hs hc
    exact ⟨n, en, by omega⟩

end Go.Proofs.Ytdgniibolfahaaa
