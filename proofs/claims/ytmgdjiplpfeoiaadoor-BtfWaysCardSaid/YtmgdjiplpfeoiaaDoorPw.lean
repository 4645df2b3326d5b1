import Derived.Test.YtmgdjiplpfeoiaaDoorTj
set_option linter.unusedSimpArgs false
set_option linter.unusedVariables false
namespace Go.Proofs.YtmgdjiplpfeoiaaDoor

/-! ### places of eight bytes are told by their ways, in plain -/
theorem dec_digit : ∀ (u : Nat) (c : UInt8), c ∈ Lib.decDigits u → 48 ≤ c.toNat ∧ c.toNat ≤ 57 := by
  intro u
  induction u using Nat.strongRecOn with
  | _ u ih =>
    intro c hc
    rw [Lib.decDigits] at hc
    split at hc
    · simp only [List.mem_singleton] at hc
      subst hc
      rw [UInt8.toNat_ofNat']
      omega
    · rcases List.mem_append.1 hc with h | h
      · exact ih (u / 10) (by omega) c h
      · simp only [List.mem_singleton] at h
        subst h
        rw [UInt8.toNat_ofNat']
        omega
theorem dec_ne (u : Nat) : Lib.decDigits u ≠ [] := by
  rw [Lib.decDigits]
  split <;> simp
theorem of48 {a b : Nat} (ha : a < 10) (hb : b < 10) (h : UInt8.ofNat (48 + a) = UInt8.ofNat (48 + b)) : a = b := by
  have := congrArg UInt8.toNat h
  rw [UInt8.toNat_ofNat', UInt8.toNat_ofNat'] at this
  omega
theorem dec_inj : ∀ (u v : Nat), Lib.decDigits u = Lib.decDigits v → u = v := by
  intro u
  induction u using Nat.strongRecOn with
  | _ u ih =>
    intro v h
    rw [Lib.decDigits, Lib.decDigits.eq_def v] at h
    by_cases hu : u < 10
    · by_cases hv : v < 10
      · rw [dif_pos hu, dif_pos hv] at h
        exact of48 hu hv (by simpa using h)
      · rw [dif_pos hu, dif_neg hv] at h
        have := congrArg List.length h
        have hne := List.length_pos_iff.2 (dec_ne (v / 10))
        rw [List.length_append] at this
        simp only [List.length_singleton] at this
        omega
    · by_cases hv : v < 10
      · rw [dif_neg hu, dif_pos hv] at h
        have := congrArg List.length h
        have hne := List.length_pos_iff.2 (dec_ne (u / 10))
        rw [List.length_append] at this
        simp only [List.length_singleton] at this
        omega
      · rw [dif_neg hu, dif_neg hv] at h
        obtain ⟨h1, h2⟩ := List.append_inj' h rfl
        have h3 := ih (u / 10) (by omega) (v / 10) h1
        have h4 := of48 (a := u % 10) (b := v % 10) (by omega) (by omega) (by simpa using h2)
        omega
theorem itoa_inj {a b : Int} (ha : 0 ≤ a) (hb : 0 ≤ b) (h : Lib.itoa a = Lib.itoa b) : a = b := by
  unfold Lib.itoa at h
  rw [if_neg (by omega), if_neg (by omega)] at h
  have := dec_inj _ _ h
  omega
theorem itoa_digit {a : Int} (ha : 0 ≤ a) {c : UInt8} (hc : c ∈ Lib.itoa a) : 48 ≤ c.toNat ∧ c.toNat ≤ 57 := by
  unfold Lib.itoa at hc
  rw [if_neg (by omega)] at hc
  exact dec_digit _ _ hc
theorem split_uniq {q : UInt8 → Bool} : ∀ {A B r1 r2 : List UInt8}, (∀ c ∈ A, q c = true) → (∀ c ∈ B, q c = true) → (∀ c, r1.head? = some c → q c = false) → (∀ c, r2.head? = some c → q c = false) → A ++ r1 = B ++ r2 → A = B ∧ r1 = r2
  | [], [], r1, r2, _, _, _, _, h => ⟨rfl, h⟩
  | [], b :: B, r1, r2, _, hB, h1, _, h => by
    have hb := hB b (List.mem_cons_self ..)
    have : r1.head? = some b := by
      have h' : r1 = b :: (B ++ r2) := h
      rw [h']
      rfl
    rw [h1 b this] at hb
    cases hb
  | a :: A, [], r1, r2, hA, _, _, h2, h => by
    have ha := hA a (List.mem_cons_self ..)
    have : r2.head? = some a := by
      have h' : a :: (A ++ r1) = r2 := h
      rw [← h']
      rfl
    rw [h2 a this] at ha
    cases ha
  | a :: A, b :: B, r1, r2, hA, hB, h1, h2, h => by
    simp only [List.cons_append, List.cons.injEq] at h
    obtain ⟨rfl, h⟩ := h
    obtain ⟨rfl, h3⟩ := split_uniq (fun c hc => hA c (List.mem_cons_of_mem _ hc)) (fun c hc => hB c (List.mem_cons_of_mem _ hc)) h1 h2 h
    exact ⟨rfl, h3⟩

section
variable {l : List Ty} {n : Int}
theorem fieldF_none {f : Nat} {id off : Int} {way : List UInt8} (ht : tyAt l (throughL l id) = none) : fieldF l n (f + 1) id off way = ([], 41) := by simp only [fieldF, ht]
theorem fieldF_some {f : Nat} {id off : Int} {way : List UInt8} {t : Ty} (ht : tyAt l (throughL l id) = some t) : fieldF l n (f + 1) id off way = if t.kind = 1 ∨ t.kind = 2 then (if sizeL l id < off + n then ([], 41) else (way, 0)) else
      if t.kind = 3 then
        (if sizeL l t.to = 0 then ([], 41) else if sizeL l t.to < off % sizeL l t.to + n then ([], 41) else fieldF l n f t.to (off % sizeL l t.to) (way ++ 91 :: (Lib.itoa (off / sizeL l t.to) ++ [93])))
      else if (memberR l off n t.mem).2 = true then fieldF l n f (memberR l off n t.mem).1.type (off - (memberR l off n t.mem).1.bits.tdiv 8) (way ++ 46 :: (memberR l off n t.mem).1.name) else ([], 41) := by simp only [fieldF, ht]
theorem ty_or (id : Int) : tyAt l id = none ∨ ∃ t, tyAt l id = some t := by
  cases tyAt l id with
  | none => exact .inl rfl
  | some t => exact .inr ⟨t, rfl⟩
theorem fieldF_way : ∀ (f : Nat) (id off : Int) (way : List UInt8), fieldF l n f id off way = (if (fieldF l n f id off []).2 = 0 then way ++ (fieldF l n f id off []).1 else [], (fieldF l n f id off []).2) := by
  intro f
  induction f with
  | zero => intro id off way; rfl
  | succ f ih =>
    intro id off way
    rcases ty_or (l := l) (throughL l id) with ht | ⟨t, ht⟩
    · rw [fieldF_none ht, fieldF_none ht]; rfl
    · rw [fieldF_some ht, fieldF_some ht]
      by_cases h12 : t.kind = 1 ∨ t.kind = 2
      · rw [if_pos h12, if_pos h12]
        by_cases h : sizeL l id < off + n
        · rw [if_pos h]; rw [if_pos h]; rfl
        · rw [if_neg h, if_neg h]; simp
      · rw [if_neg h12, if_neg h12]
        by_cases h3 : t.kind = 3
        · rw [if_pos h3, if_pos h3]
          by_cases hz : sizeL l t.to = 0
          · rw [if_pos hz, if_pos hz]; rfl
          · rw [if_neg hz, if_neg hz]
            by_cases hs : sizeL l t.to < off % sizeL l t.to + n
            · rw [if_pos hs, if_pos hs]; rfl
            · rw [if_neg hs, if_neg hs]
              rw [ih t.to _ (way ++ _), ih t.to _ ([] ++ _)]
              by_cases h0 : (fieldF l n f t.to (off % sizeL l t.to) []).2 = 0
              · simp only [if_pos h0]; simp
              · simp only [if_neg h0]
        · rw [if_neg h3, if_neg h3]
          by_cases hm : (memberR l off n t.mem).2 = true
          · rw [if_pos hm, if_pos hm]
            rw [ih _ _ (way ++ _), ih _ _ ([] ++ _)]
            by_cases h0 : (fieldF l n f (memberR l off n t.mem).1.type (off - (memberR l off n t.mem).1.bits.tdiv 8) []).2 = 0
            · simp only [if_pos h0]; simp
            · simp only [if_neg h0]
          · rw [if_neg hm, if_neg hm]; rfl
theorem fieldF_cons {f : Nat} {id off : Int} {way r : List UInt8} (h : fieldF l n f id off way = (r, 0)) : ∃ s, r = way ++ s ∧ fieldF l n f id off [] = (s, 0) := by
  rw [fieldF_way] at h
  simp only [Prod.mk.injEq] at h
  obtain ⟨h1, h2⟩ := h
  rw [if_pos h2] at h1
  exact ⟨_, h1.symm, by rw [← h2]⟩
theorem fieldF_head : ∀ (f : Nat) (id off : Int) (r : List UInt8), fieldF l n f id off [] = (r, 0) → ∀ c, r.head? = some c → c = 46 ∨ c = 91
  | 0, _, _, _, h, _, _ => by simp [fieldF] at h
  | f + 1, id, off, r, h, c, hc => by
    rcases ty_or (l := l) (throughL l id) with ht | ⟨t, ht⟩
    · rw [fieldF_none ht] at h; simp at h
    · rw [fieldF_some ht] at h
      split at h
      · split at h
        · simp at h
        · simp only [Prod.mk.injEq] at h
          rw [← h.1] at hc
          cases hc
      · split at h
        · split at h
          · simp at h
          · split at h
            · simp at h
            · obtain ⟨s, hs, _⟩ := fieldF_cons h
              rw [hs] at hc
              simp at hc
              exact .inr hc.symm
        · split at h
          · obtain ⟨s, hs, _⟩ := fieldF_cons h
            rw [hs] at hc
            simp at hc
            exact .inl hc.symm
          · simp at h
end

theorem members_of_alone {l : List Ty} {i : Nat} {t : Ty} (h : aloneC l i t = 0) : membersB t = true := by
  unfold aloneC at h
  split at h
  · cases h
  · split at h
    · cases h
    · split at h
      · cases h
      · split at h
        · cases h
        · rename_i h1
          simpa using h1
theorem name_of {t : Ty} (hm : membersB t = true) (hk : t.kind ≠ 6) {m : Mb} (h : m ∈ t.mem) : nameB m.name = true := by
  obtain ⟨j, hj, e⟩ := List.mem_iff_getElem.1 h
  unfold membersB at hm
  rw [List.all_eq_true] at hm
  have := hm j (List.mem_range.2 hj)
  unfold memOk at this
  rw [List.getElem?_eq_getElem hj, e] at this
  simp only [Bool.or_eq_true, Bool.and_eq_true, beq_iff_eq] at this
  rcases this with ⟨h1, _⟩ | ⟨_, h2⟩
  · exact absurd h1 hk
  · exact h2
theorem name_lt {t : Ty} (hm : membersB t = true) (hk : t.kind ≠ 6) {i j : Nat} {a b : Mb} (ha : t.mem[i]? = some a) (hb : t.mem[j]? = some b) (hij : i < j) : a.name ≠ b.name := by
  have hj := (List.getElem?_eq_some_iff.1 hb).1
  unfold membersB at hm
  rw [List.all_eq_true] at hm
  have := hm j (List.mem_range.2 hj)
  unfold memOk at this
  rw [hb] at this
  simp only [Bool.or_eq_true, Bool.and_eq_true, beq_iff_eq] at this
  rcases this with ⟨h1, _⟩ | ⟨h2, _⟩
  · exact absurd h1 hk
  · rw [List.all_eq_true] at h2
    have h3 := h2 a (by
      refine List.mem_of_getElem? (i := i) ?_
      rw [List.getElem?_take_of_lt hij]
      exact ha)
    simpa using h3
theorem name_uniq {t : Ty} (hm : membersB t = true) (hk : t.kind ≠ 6) {a b : Mb} (ha : a ∈ t.mem) (hb : b ∈ t.mem) (h : a.name = b.name) : a = b := by
  obtain ⟨i, hi⟩ := List.mem_iff_getElem?.1 ha
  obtain ⟨j, hj⟩ := List.mem_iff_getElem?.1 hb
  rcases Nat.lt_trichotomy i j with hij | hij | hij
  · exact absurd h (name_lt hm hk hi hj hij)
  · subst hij
    rw [hi] at hj
    exact Option.some.inj hj
  · exact absurd h.symm (name_lt hm hk hj hi hij)
theorem name_char {s : List UInt8} (h : nameB s = true) : ∀ c ∈ s, (c != 46 && c != 91) = true := by
  intro c hc
  obtain ⟨j, hj, e⟩ := List.mem_iff_getElem.1 hc
  unfold nameB at h
  simp only [Bool.and_eq_true, List.all_eq_true, List.mem_range] at h
  have := h.2 j hj
  rw [List.getD_eq_getElem?_getD, List.getElem?_eq_getElem hj, e] at this
  simp only [Option.getD_some] at this
  rw [Bool.and_eq_true, bne_iff_ne, bne_iff_ne]
  constructor
  · rintro rfl
    simp [letterB] at this
  · rintro rfl
    simp [letterB] at this

/-- what a type that is no function holds is none, too -/
theorem holds_no_func {l : List Ty} (hF : firstF (pF l) l.length = none) {k : Nat} {t : Ty} (ht : l[k]? = some t) (h5 : t.kind ≠ 5) {b : Int} (hb : b ∈ holdsL t) : kindAt l (throughL l b) ≠ 6 := by
  have hk := (List.getElem?_eq_some_iff.1 ht).1
  have := firstF_none hF (i := k) hk
  unfold pF at this
  rw [ht] at this
  simp only [Option.map_some, Option.getD_some] at this
  unfold functionsB at this
  rw [if_neg h5, List.any_eq_false] at this
  simpa using this b hb

theorem fieldF_inj {l : List Ty} (hg : Good l) (hF : firstF (pF l) l.length = none) : ∀ (f : Nat) (id o1 o2 : Int) (r : List UInt8), 1 ≤ id → id ≤ l.length → kindAt l (throughL l id) ≠ 6 → 0 ≤ o1 → 0 ≤ o2 →
    fieldF l 8 f id o1 [] = (r, 0) → fieldF l 8 f id o2 [] = (r, 0) → o1 = o2
  | 0, _, _, _, _, _, _, _, _, _, h, _ => by simp [fieldF] at h
  | f + 1, id, o1, o2, r, i1, i2, h6, ho1, ho2, e1, e2 => by
    have hcl := hg.closed
    have hac := hg.acyc
    obtain ⟨i, rfl⟩ : ∃ i : Nat, id = (i : Int) + 1 := ⟨(id - 1).toNat, by omega⟩
    obtain ⟨k, t, hq1, hq2, hta, hk5⟩ := through_ix hg (i := i) (by omega)
    have hka : kindAt l (throughL l ((i : Int) + 1)) = t.kind := by unfold kindAt; rw [hta]; rfl
    rw [hka] at h6
    have hsz := hg.sized hta
    rw [fieldF_some hta] at e1 e2
    by_cases h12 : t.kind = 1 ∨ t.kind = 2
    · have hs8 : sizeL l ((i : Int) + 1) ≤ 8 := by
        rw [size_step hcl hac hta]
        rcases h12 with h | h
        · rw [if_neg (by omega), if_neg (by omega)]
          have := hsz.1
          unfold sizedB at this
          rw [if_pos h] at this
          simp at this
          omega
        · rw [if_pos h]
          omega
      rw [if_pos h12] at e1 e2
      split at e1
      · simp at e1
      · split at e2
        · simp at e2
        · omega
    · rw [if_neg h12] at e1 e2
      by_cases h3 : t.kind = 3
      · rw [if_pos h3] at e1 e2
        have hs := array_succ hta h3
        have hmt := hcl _ _ hs
        have hsr := hg.size_range (rk l t.to + 1) t.to (Nat.lt_succ_self _) (by omega) (by omega)
        have hn6 := holds_no_func hF hq2 hk5 (b := t.to) (by unfold holdsL; rw [if_pos (.inr h3)]; exact List.mem_singleton.2 rfl)
        split at e1
        · simp at e1
        · rename_i hz
          rw [if_neg hz] at e2
          split at e1
          · simp at e1
          · split at e2
            · simp at e2
            · obtain ⟨s1, hr1, f1⟩ := fieldF_cons e1
              obtain ⟨s2, hr2, f2⟩ := fieldF_cons e2
              rw [hr1] at hr2
              simp only [List.nil_append, List.cons_append, List.cons.injEq, true_and, List.append_assoc] at hr2
              have q1 := Int.ediv_nonneg ho1 (show (0 : Int) ≤ sizeL l t.to by omega)
              have q2 := Int.ediv_nonneg ho2 (show (0 : Int) ≤ sizeL l t.to by omega)
              obtain ⟨ha, hb⟩ := split_uniq (q := fun c => c != 93) (fun c hc => by have := itoa_digit q1 hc; simp; rintro rfl; simp at this) (fun c hc => by have := itoa_digit q2 hc; simp; rintro rfl; simp at this) (fun c hc => by simp at hc; subst hc; rfl) (fun c hc => by simp at hc; subst hc; rfl) hr2
              simp only [List.cons.injEq, true_and] at hb
              subst hb
              have hq := itoa_inj q1 q2 ha
              have hm := fieldF_inj hg hF f t.to _ _ s1 hmt.1 hmt.2 hn6 (Int.emod_nonneg _ hz) (Int.emod_nonneg _ hz) f1 f2
              have d1 := Int.mul_ediv_add_emod o1 (sizeL l t.to)
              have d2 := Int.mul_ediv_add_emod o2 (sizeL l t.to)
              rw [hq, hm] at d1
              omega
      · rw [if_neg h3] at e1 e2
        have h4 : t.kind = 4 := by omega
        split at e1
        · rename_i hm1
          split at e2
          · rename_i hm2
            obtain ⟨n1, b1⟩ := memberR_in hm1
            obtain ⟨n2, b2⟩ := memberR_in hm2
            generalize (memberR l o1 8 t.mem).1 = m1 at *
            generalize (memberR l o2 8 t.mem).1 = m2 at *
            obtain ⟨s1, hr1, f1⟩ := fieldF_cons e1
            obtain ⟨s2, hr2, f2⟩ := fieldF_cons e2
            rw [hr1] at hr2
            simp only [List.nil_append, List.cons_append, List.cons.injEq, true_and] at hr2
            have hmb := members_of_alone (hg.alone k t hq2)
            have hst : ∀ (f : Nat) (id off : Int) (s : List UInt8), fieldF l 8 f id off [] = (s, 0) → ∀ c, s.head? = some c → (c != 46 && c != 91) = false := fun f id off s h c hc => by
              rcases fieldF_head f id off s h c hc with rfl | rfl <;> rfl
            obtain ⟨ha, rfl⟩ := split_uniq (q := fun c => c != 46 && c != 91) (name_char (name_of hmb (by omega) n1)) (name_char (name_of hmb (by omega) n2)) (hst _ _ _ _ f1) (hst _ _ _ _ f2) hr2
            obtain rfl := name_uniq hmb (by omega) n1 n2 ha
            have hho : m1.type ∈ holdsL t := by
              unfold holdsL
              rw [if_neg (by omega), if_pos h4]
              exact List.mem_map.2 ⟨m1, n1, rfl⟩
            have hmt := hcl (throughL l ((i : Int) + 1)) m1.type (by unfold succL; rw [hta]; exact hho)
            have hn6 := holds_no_func hF hq2 hk5 hho
            unfold memberB at b1 b2
            simp only [Bool.and_eq_true, decide_eq_true_eq] at b1 b2
            have := fieldF_inj hg hF f m1.type _ _ s1 hmt.1 hmt.2 hn6 (by omega) (by omega) f1 f2
            omega
          · simp at e2
        · simp at e1
theorem ways_inj {l : List Ty} {id o1 o2 : Int} (hr : Raw l) (h0 : (sizeR l id).2 = 0) (h1 : (fieldA l id o1 8).2 = 0) (h2 : (fieldA l id o2 8).2 = 0) (e : (fieldA l id o1 8).1 = (fieldA l id o2 8).1) : o1 = o2 := by
  obtain ⟨hg, ⟨hF, hL⟩, i1, i2, h6, _, _⟩ := sizeR_ok hr h0
  have hone : ∀ o, (fieldA l id o 8).2 = 0 → 0 ≤ o ∧ fieldA l id o 8 = fieldF l 8 (l.length + 1) id o [] := fun o h => by
    unfold fieldA at h ⊢
    rw [if_neg (by simpa using h0)] at h ⊢
    split at h
    · simp at h
    · rename_i hb
      rw [if_neg hb]
      exact ⟨by
        rcases Int.lt_or_le o 0 with h | h
        · exact absurd (.inl h) hb
        · exact h, rfl⟩
  obtain ⟨p1, q1⟩ := hone o1 h1
  obtain ⟨p2, q2⟩ := hone o2 h2
  rw [q1] at h1 e
  rw [q2] at h2 e
  exact fieldF_inj hg hF _ id o1 o2 _ i1 i2 h6 p1 p2 (Prod.ext rfl h1) (Prod.ext e.symm h2)

end Go.Proofs.YtmgdjiplpfeoiaaDoor
