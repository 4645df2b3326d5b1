import Derived.Test.YtaehmaocibimeaaW4
set_option linter.unusedSimpArgs false
set_option linter.unusedVariables false
namespace Go.Proofs.Ytaehmaocibimeaa

/-! ### the heap's order, in plain -/
def sw (p k a : Nat) : Nat := if a = p then k else if a = k then p else a

theorem swp_get {L : List Tm} {p k : Nat} (hp : p < L.length) (hk : k < L.length) (a : Nat) : (swp L p k)[a]? = L[sw p k a]? := by
  unfold swp sw
  rw [List.getElem?_eq_getElem hp, List.getElem?_eq_getElem hk]
  simp only
  by_cases h1 : a = k
  · subst h1
    rw [List.getElem?_set_self (by simpa using hk)]
    by_cases h2 : a = p
    · subst h2; simp [hk]
    · simp [h2, hp]
  · rw [List.getElem?_set_ne (Ne.symm h1)]
    by_cases h2 : a = p
    · subst h2; simp [hp, hk]
    · rw [List.getElem?_set_ne (Ne.symm h2)]
      simp [h1, h2]

theorem ltAt_swp {L : List Tm} {p k : Nat} (hp : p < L.length) (hk : k < L.length) (a b : Nat) : ltAt (swp L p k) a b = ltAt L (sw p k a) (sw p k b) := by
  unfold ltAt
  rw [swp_get hp hk, swp_get hp hk]

theorem swp_perm {L : List Tm} {p k : Nat} (hp : p < L.length) (hk : k < L.length) : ∀ x, x ∈ swp L p k ↔ x ∈ L := by
  intro x
  constructor
  · intro hx
    obtain ⟨a, ha⟩ := List.mem_iff_getElem?.1 hx
    rw [swp_get hp hk] at ha
    exact List.mem_of_getElem? ha
  · intro hx
    obtain ⟨a, ha⟩ := List.mem_iff_getElem?.1 hx
    refine List.mem_iff_getElem?.2 ⟨sw p k a, ?_⟩
    rw [swp_get hp hk, ← ha]
    congr 1
    unfold sw
    split
    · rename_i h; subst h; split <;> simp_all
    · split
      · simp_all
      · rename_i h1 h2; simp [h1, h2]

theorem Tm.lt_iff (a b : Tm) : a.lt b = true ↔ (a.when < b.when ∨ (a.when = b.when ∧ a.start < b.start)) := by
  unfold Tm.lt
  simp

theorem lt_tr {L : List Tm} {a b c : Nat} (h1 : ltAt L a b = true) (h2 : ltAt L b c = true) : ltAt L a c = true := by
  unfold ltAt at *
  split at h1
  · rename_i x y hx hy
    rw [hy] at h2
    split at h2
    · rename_i y' z hy' hz
      cases hy'
      rw [hx, hz]
      simp only [Tm.lt_iff] at *
      omega
    · cases h2
  · cases h1

theorem lt_as {L : List Tm} {a b : Nat} (h1 : ltAt L a b = true) : ltAt L b a = false := by
  unfold ltAt at *
  split at h1
  · rename_i x y hx hy
    rw [hy, hx]
    rw [Tm.lt_iff] at h1
    rw [Bool.eq_false_iff]
    intro h
    rw [Tm.lt_iff] at h
    omega
  · cases h1

theorem nlt_tr {L : List Tm} {a b c : Nat} (hb : b < L.length) (h1 : ltAt L a b = false) (h2 : ltAt L b c = false) : ltAt L a c = false := by
  unfold ltAt at *
  rw [List.getElem?_eq_getElem hb] at h1 h2
  cases ha : L[a]? with
  | none => rfl
  | some x =>
    cases hc : L[c]? with
    | none => rfl
    | some z =>
      rw [ha] at h1
      rw [hc] at h2
      simp only [Bool.eq_false_iff, ne_eq, Tm.lt_iff] at *
      omega

theorem nlt_of {L : List Tm} {j k p : Nat} (h1 : ltAt L j p = false) (h2 : ltAt L k p = true) : ltAt L j k = false := by
  cases h : ltAt L j k
  · rfl
  · rw [lt_tr h h2] at h1; cases h1

def HO (L : List Tm) : Prop := ∀ j, 0 < j → j < L.length → ltAt L j ((j - 1) / 2) = false

theorem upL_ok : ∀ (m k : Nat) (L : List Tm), k ≤ m → k < L.length → (∀ j, 0 < j → j < L.length → j ≠ k → ltAt L j ((j - 1) / 2) = false) →
    (0 < k → ∀ j, j < L.length → 0 < j → (j - 1) / 2 = k → ltAt L j ((k - 1) / 2) = false) → HO (upL L k) := by
  intro m
  induction m with
  | zero =>
    intro k L hk hl h1 h2
    obtain rfl : k = 0 := by omega
    rw [upL_zero]
    exact fun j h0 hj => h1 j h0 hj (by omega)
  | succ m ih =>
    intro k L hk hl h1 h2
    by_cases h0 : 0 < k
    case neg =>
      obtain rfl : k = 0 := by omega
      rw [upL_zero]
      exact fun j h0 hj => h1 j h0 hj (by omega)
    cases hlt : ltAt L k ((k - 1) / 2)
    · rw [upL_stop hlt]
      intro j h0 hj
      by_cases e : j = k
      · subst e; exact hlt
      · exact h1 j h0 hj e
    · rw [upL_go h0 hlt]
      generalize hp : (k - 1) / 2 = p at *
      have hpk : p < k := by omega
      have hpl : p < L.length := by omega
      refine ih p (swp L p k) (by omega) (by rw [swp_len]; omega) ?_ ?_
      · intro j hj0 hjl hjp
        rw [swp_len] at hjl
        rw [ltAt_swp hpl hl]
        by_cases e1 : j = k
        · subst e1
          rw [hp]
          have : sw p j j = p := by unfold sw; split <;> simp_all
          rw [this, show sw p j p = j by simp [sw]]
          exact lt_as hlt
        · have ej : sw p k j = j := by simp [sw, hjp, e1]
          rw [ej]
          by_cases e2 : (j - 1) / 2 = k
          · rw [e2, show sw p k k = p by unfold sw; split <;> simp_all]
            exact h2 h0 j hjl hj0 e2
          · by_cases e3 : (j - 1) / 2 = p
            · rw [e3, show sw p k p = k by simp [sw]]
              have := h1 j hj0 hjl e1
              rw [e3] at this
              exact nlt_of this hlt
            · rw [show sw p k ((j - 1) / 2) = (j - 1) / 2 by simp [sw, e2, e3]]
              exact h1 j hj0 hjl e1
      · intro hp0 j hjl hj0 hjp
        rw [swp_len] at hjl
        rw [ltAt_swp hpl hl]
        have hpp : sw p k ((p - 1) / 2) = (p - 1) / 2 := by
          unfold sw
          rw [if_neg (by omega), if_neg (by omega)]
        rw [hpp]
        have hpn := h1 p hp0 hpl (by omega)
        by_cases e1 : j = k
        · subst e1
          rw [show sw p j j = p by unfold sw; split <;> simp_all]
          exact hpn
        · have ej : sw p k j = j := by
            unfold sw
            rw [if_neg (by omega), if_neg e1]
          rw [ej]
          have := h1 j hj0 hjl e1
          rw [hjp] at this
          exact nlt_tr hpl this hpn

theorem downL_get (n : Nat) : ∀ (m : Nat) (L : List Tm) (i : Nat), n - i ≤ m → n ≤ L.length → ∀ k, n ≤ k → (downL L i n).1[k]? = L[k]? := by
  intro m
  induction m with
  | zero => intro L i h _ k _; rw [downL_end (by omega)]
  | succ m ih =>
    intro L i h hL k hk
    have stay : ∀ c, i < c → c < n → (swp L i c)[k]? = L[k]? := fun c h1 h2 => by
      rw [swp_get (by omega) (by omega)]
      congr 1
      unfold sw
      rw [if_neg (by omega), if_neg (by omega)]
    by_cases h1 : 2 * i + 1 < n
    · by_cases hr : 2 * i + 2 < n ∧ ltAt L (2 * i + 2) (2 * i + 1) = true
      · rw [downL_r hr.1 hr.2]
        split
        · rw [ih _ _ (by omega) (by rw [swp_len]; exact hL) k hk, stay _ (by omega) (by omega)]
        · rfl
      · rw [downL_l h1 (by cases hx : ltAt L (2 * i + 2) (2 * i + 1) <;> simp_all)]
        split
        · rw [ih _ _ (by omega) (by rw [swp_len]; exact hL) k hk, stay _ (by omega) (by omega)]
        · rfl
    · rw [downL_end h1]

theorem downL_ok (n : Nat) : ∀ (m : Nat) (L : List Tm) (i : Nat), n - i ≤ m → n ≤ L.length → (∀ j, 0 < j → j < n → (j - 1) / 2 ≠ i → ltAt L j ((j - 1) / 2) = false) →
    (0 < i → ∀ j, 0 < j → j < n → (j - 1) / 2 = i → ltAt L j ((i - 1) / 2) = false) → ∀ j, 0 < j → j < n → ltAt (downL L i n).1 j ((j - 1) / 2) = false := by
  intro m
  induction m with
  | zero =>
    intro L i h hL h1 h2 j hj0 hjn
    rw [downL_end (by omega)]
    exact h1 j hj0 hjn (by omega)
  | succ m ih =>
    intro L i h hL h1 h2 j hj0 hjn
    -- the step to the child c
    have go : ∀ c, 0 < c → c < n → (c - 1) / 2 = i → ltAt L c i = true → (∀ s, 0 < s → s < n → (s - 1) / 2 = i → s ≠ c → ltAt L s c = false) → ltAt (downL (swp L i c) c n).1 j ((j - 1) / 2) = false := by
      intro c hc0 hcn hci hlt hsib
      have hil : i < L.length := by omega
      have hcl : c < L.length := by omega
      have hic : i ≠ c := by omega
      refine ih (swp L i c) c (by omega) (by rw [swp_len]; exact hL) ?_ ?_ j hj0 hjn
      · intro a ha0 han hac
        rw [ltAt_swp hil hcl]
        by_cases e1 : a = i
        · subst e1
          rw [show sw a c a = c by simp [sw], show sw a c ((a - 1) / 2) = (a - 1) / 2 by unfold sw; rw [if_neg (by omega), if_neg (by omega)]]
          exact h2 ha0 c hc0 hcn hci
        · by_cases e2 : a = c
          · subst e2
            rw [show sw i a a = i by simp [sw, Ne.symm hic], hci, show sw i a i = a by simp [sw]]
            exact lt_as hlt
          · rw [show sw i c a = a by simp [sw, e1, e2]]
            by_cases e3 : (a - 1) / 2 = i
            · rw [e3, show sw i c i = c by simp [sw]]
              exact hsib a ha0 han e3 e2
            · rw [show sw i c ((a - 1) / 2) = (a - 1) / 2 by simp [sw, e3, hac]]
              exact h1 a ha0 han e3
      · intro _ a ha0 han hac
        rw [ltAt_swp hil hcl, hci, show sw i c i = c by simp [sw], show sw i c a = a by unfold sw; rw [if_neg (by omega), if_neg (by omega)]]
        have := h1 a ha0 han (by omega)
        rw [hac] at this
        exact this
    have fin : (∀ s, 0 < s → s < n → (s - 1) / 2 = i → ltAt L s i = false) → ltAt L j ((j - 1) / 2) = false := by
      intro hs
      by_cases e : (j - 1) / 2 = i
      · rw [e]; exact hs j hj0 hjn e
      · exact h1 j hj0 hjn e
    by_cases hc : 2 * i + 1 < n
    case neg =>
      rw [downL_end hc]
      exact fin (fun s h1 h2 h3 => by omega)
    by_cases hr : 2 * i + 2 < n ∧ ltAt L (2 * i + 2) (2 * i + 1) = true
    · rw [downL_r hr.1 hr.2]
      cases hlt : ltAt L (2 * i + 2) i
      · rw [if_neg (by simp)]
        refine fin fun s hs0 hsn hsi => ?_
        have : s = 2 * i + 1 ∨ s = 2 * i + 2 := by omega
        rcases this with rfl | rfl
        · exact nlt_tr (b := 2 * i + 2) (by omega) (lt_as hr.2) hlt
        · exact hlt
      · rw [if_pos rfl]
        refine go _ (by omega) hr.1 (by omega) hlt fun s hs0 hsn hsi hne => ?_
        obtain rfl : s = 2 * i + 1 := by omega
        exact lt_as hr.2
    · have hr' : ¬ (2 * i + 2 < n) ∨ ltAt L (2 * i + 2) (2 * i + 1) = false := by cases hx : ltAt L (2 * i + 2) (2 * i + 1) <;> simp_all
      rw [downL_l hc hr']
      have hsib : ∀ s, 0 < s → s < n → (s - 1) / 2 = i → s ≠ 2 * i + 1 → ltAt L s (2 * i + 1) = false := fun s hs0 hsn hsi hne => by
        obtain rfl : s = 2 * i + 2 := by omega
        rcases hr' with h | h
        · exact absurd hsn h
        · exact h
      cases hlt : ltAt L (2 * i + 1) i
      · rw [if_neg (by simp)]
        refine fin fun s hs0 hsn hsi => ?_
        by_cases e : s = 2 * i + 1
        · subst e; exact hlt
        · exact nlt_tr (b := 2 * i + 1) (by omega) (hsib s hs0 hsn hsi e) hlt
      · rw [if_pos rfl]
        exact go _ (by omega) hc (by omega) hlt hsib

theorem downL_mem (n : Nat) : ∀ (m : Nat) (L : List Tm) (i : Nat), n - i ≤ m → n ≤ L.length → ∀ x, x ∈ (downL L i n).1 ↔ x ∈ L := by
  intro m
  induction m with
  | zero => intro L i h _ x; rw [downL_end (by omega)]
  | succ m ih =>
    intro L i h hL x
    by_cases h1 : 2 * i + 1 < n
    · by_cases hr : 2 * i + 2 < n ∧ ltAt L (2 * i + 2) (2 * i + 1) = true
      · rw [downL_r hr.1 hr.2]
        split
        · rw [ih _ _ (by omega) (by rw [swp_len]; exact hL), swp_perm (by omega) (by omega)]
        · rfl
      · rw [downL_l h1 (by cases hx : ltAt L (2 * i + 2) (2 * i + 1) <;> simp_all)]
        split
        · rw [ih _ _ (by omega) (by rw [swp_len]; exact hL), swp_perm (by omega) (by omega)]
        · rfl
    · rw [downL_end h1]

theorem upL_mem : ∀ (m : Nat) (L : List Tm) (k : Nat), k ≤ m → k < L.length → ∀ x, x ∈ upL L k ↔ x ∈ L := by
  intro m
  induction m with
  | zero => intro L k h hl x; obtain rfl : k = 0 := by omega
            rw [upL_zero]
  | succ m ih =>
    intro L k h hl x
    by_cases h0 : 0 < k
    · cases hlt : ltAt L k ((k - 1) / 2)
      · rw [upL_stop hlt]
      · rw [upL_go h0 hlt, ih _ _ (by omega) (by rw [swp_len]; omega), swp_perm (by omega) hl]
    · obtain rfl : k = 0 := by omega
      rw [upL_zero]

theorem fix_last (L : List Tm) (t : Tm) : fixL (L ++ [t]) L.length = upL (L ++ [t]) L.length := by
  have : downL (L ++ [t]) L.length (L ++ [t]).length = (L ++ [t], L.length) := downL_end (by simp; omega)
  rw [fixL_b (by rw [this]; exact Nat.lt_irrefl _), this]

theorem ltAt_app {L : List Tm} {t : Tm} {a b : Nat} (ha : a < L.length) (hb : b < L.length) : ltAt (L ++ [t]) a b = ltAt L a b := by
  unfold ltAt
  rw [List.getElem?_append_left ha, List.getElem?_append_left hb]

theorem push_ok {L : List Tm} (h : HO L) (t : Tm) : HO (fixL (L ++ [t]) L.length) := by
  rw [fix_last]
  refine upL_ok _ _ _ (Nat.le_refl _) (by simp) ?_ ?_
  · intro j hj0 hjl hne
    simp at hjl
    rw [ltAt_app (by omega) (by omega)]
    exact h j hj0 (by omega)
  · intro _ j hjl hj0 hjp
    simp at hjl
    omega
theorem push_mem (L : List Tm) (t x : Tm) : x ∈ fixL (L ++ [t]) L.length ↔ x ∈ L ∨ x = t := by
  rw [fix_last, upL_mem _ _ _ (Nat.le_refl _) (by simp)]
  simp

theorem pop_root {L : List Tm} {n : Nat} (hL : L.length = n + 1) : (popX L n)[n]? = L[0]? := by
  unfold popX
  rw [downL_get n _ _ _ (Nat.le_refl _) (by rw [swp_len]; omega) n (Nat.le_refl _), swp_get (by omega) (by omega)]
  congr 1
  unfold sw
  split
  · rename_i h; simp [h]
  · simp

theorem ltAt_take {L : List Tm} {n a b : Nat} (ha : a < n) (hb : b < n) : ltAt (L.take n) a b = ltAt L a b := by
  unfold ltAt
  rw [List.getElem?_take_of_lt ha, List.getElem?_take_of_lt hb]

theorem pop_ok {L : List Tm} {n : Nat} (hL : L.length = n + 1) (h : HO L) : HO ((popX L n).take n) := by
  intro j hj0 hjl
  have hjn : j < n := by simp at hjl; omega
  rw [ltAt_take hjn (by omega)]
  unfold popX
  refine downL_ok n _ _ _ (Nat.le_refl _) (by rw [swp_len]; omega) ?_ (by omega) j hj0 hjn
  intro a ha0 han hne
  rw [ltAt_swp (by omega) (by omega)]
  rw [show sw 0 n a = a by unfold sw; rw [if_neg (by omega), if_neg (by omega)], show sw 0 n ((a - 1) / 2) = (a - 1) / 2 by unfold sw; rw [if_neg hne, if_neg (by omega)]]
  exact h a ha0 (by omega)

theorem pop_mem {L : List Tm} {n : Nat} (hL : L.length = n + 1) {x : Tm} (hx : x ∈ (popX L n).take n) : x ∈ L := by
  have h1 := List.mem_of_mem_take hx
  unfold popX at h1
  rw [downL_mem n _ _ _ (Nat.le_refl _) (by rw [swp_len]; omega), swp_perm (by omega) (by omega)] at h1
  exact h1

theorem root_min {L : List Tm} (h : HO L) : ∀ (m j : Nat), j ≤ m → j < L.length → ltAt L j 0 = false := by
  intro m
  induction m with
  | zero =>
    intro j hj hl
    obtain rfl : j = 0 := by omega
    cases e : ltAt L 0 0
    · rfl
    · have := lt_as e; rw [e] at this; cases this
  | succ m ih =>
    intro j hj hl
    by_cases h0 : 0 < j
    · exact nlt_tr (b := (j - 1) / 2) (by omega) (h j h0 hl) (ih _ (by omega) (by omega))
    · exact ih j (by omega) hl
theorem root_when {L : List Tm} (h : HO L) {d : Tm} {r : List Tm} (hd : L = d :: r) {x : Tm} (hx : x ∈ L) : d.when ≤ x.when := by
  obtain ⟨j, hj⟩ := List.mem_iff_getElem?.1 hx
  have hl : j < L.length := (List.getElem?_eq_some_iff.1 hj).1
  have := root_min h j j (Nat.le_refl _) hl
  unfold ltAt at this
  rw [hj, hd] at this
  simp only [List.getElem?_cons_zero, Bool.eq_false_iff, ne_eq, Tm.lt_iff] at this
  omega

end Go.Proofs.Ytaehmaocibimeaa
