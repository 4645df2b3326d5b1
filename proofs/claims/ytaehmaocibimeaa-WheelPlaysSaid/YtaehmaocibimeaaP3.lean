import Derived.Test.YtaehmaocibimeaaP2
set_option linter.unusedSimpArgs false
set_option linter.unusedVariables false
namespace Go.Proofs.Ytaehmaocibimeaa

theorem swp_P {L : List Tm} {p k : Nat} (hp : p < L.length) (hk : k < L.length) : (swp L p k).Perm L := by
  unfold swp
  rw [List.getElem?_eq_getElem hp, List.getElem?_eq_getElem hk]
  exact List.set_set_perm hp hk

theorem downL_P (n : Nat) : ∀ (m : Nat) (L : List Tm) (i : Nat), n - i ≤ m → n ≤ L.length → (downL L i n).1.Perm L := by
  intro m
  induction m with
  | zero => intro L i h _; rw [downL_end (by omega)]
  | succ m ih =>
    intro L i h hL
    by_cases h1 : 2 * i + 1 < n
    · by_cases hr : 2 * i + 2 < n ∧ ltAt L (2 * i + 2) (2 * i + 1) = true
      · rw [downL_r hr.1 hr.2]
        split
        · exact (ih _ _ (by omega) (by rw [swp_len]; exact hL)).trans (swp_P (by omega) (by omega))
        · exact List.Perm.refl _
      · rw [downL_l h1 (by cases hx : ltAt L (2 * i + 2) (2 * i + 1) <;> simp_all)]
        split
        · exact (ih _ _ (by omega) (by rw [swp_len]; exact hL)).trans (swp_P (by omega) (by omega))
        · exact List.Perm.refl _
    · rw [downL_end h1]

theorem upL_P : ∀ (m k : Nat) (L : List Tm), k ≤ m → k < L.length → (upL L k).Perm L := by
  intro m
  induction m with
  | zero => intro k L h hl; obtain rfl : k = 0 := by omega
            rw [upL_zero]
  | succ m ih =>
    intro k L h hl
    by_cases h0 : 0 < k
    · cases hlt : ltAt L k ((k - 1) / 2)
      · rw [upL_stop hlt]
      · rw [upL_go h0 hlt]
        exact (ih _ _ (by omega) (by rw [swp_len]; omega)).trans (swp_P (by omega) hl)
    · obtain rfl : k = 0 := by omega
      rw [upL_zero]

theorem push_P (L : List Tm) (t : Tm) : (fixL (L ++ [t]) L.length).Perm (t :: L) := by
  rw [fix_last]
  refine (upL_P _ _ _ (Nat.le_refl _) (by simp)).trans ?_
  exact List.perm_append_comm

theorem pop_P {L : List Tm} {n : Nat} {x : Tm} (hL : L.length = n + 1) (hx : (popX L n)[n]? = some x) : (x :: (popX L n).take n).Perm L := by
  have h1 : (popX L n).Perm L := by
    unfold popX
    exact (downL_P n _ _ _ (Nat.le_refl _) (by rw [swp_len]; omega)).trans (swp_P (by omega) (by omega))
  have h2 := split_last (l := popX L n) (n := n) (by rw [popX_len, hL])
  have h3 : (popX L n)[n]'(by rw [popX_len, hL]; omega) = x := by
    have := List.getElem?_eq_getElem (l := popX L n) (i := n) (by rw [popX_len, hL]; omega)
    rw [this] at hx
    exact Option.some.inj hx
  rw [h3] at h2
  have h4 : (x :: (popX L n).take n).Perm (popX L n) := by
    have : ((popX L n).take n ++ [x]).Perm (x :: (popX L n).take n) := List.perm_append_comm
    exact this.symm.trans (by rw [← h2])
  exact h4.trans h1

def LtT (a b : Tm) : Prop := a.when < b.when ∨ (a.when = b.when ∧ a.start < b.start)

theorem root_lt {L : List Tm} {n : Nat} {x : Tm} (h : HO L) (hL : L.length = n + 1) (hx : (popX L n)[n]? = some x) {y : Tm} (hy : y ∈ L) : ¬ LtT y x := by
  obtain ⟨j, hj⟩ := List.mem_iff_getElem?.1 hy
  have hl : j < L.length := (List.getElem?_eq_some_iff.1 hj).1
  have := root_min h j j (Nat.le_refl _) hl
  rw [pop_root hL] at hx
  unfold ltAt at this
  rw [hj, hx] at this
  simp only [Bool.eq_false_iff, ne_eq, Tm.lt_iff] at this
  exact this

/-- a row of armed timers that stands as it must, beside the table -/
structure HVL (all : List (Int × (Nat × Tm))) (L : List Tm) : Prop where
  ho : HO L
  nd : (L.map Tm.start).Nodup
  pos : ∀ x ∈ L, 0 < x.start
  coh : ∀ x ∈ L, ∀ g t, lookI all x.id = some (g, t) → t.start = x.start → t.when = x.when
  ids : ∀ id g t, lookI all id = some (g, t) → t.id = id ∧ 0 ≤ t.start

theorem HVL.pop {all : List (Int × (Nat × Tm))} {L : List Tm} (h : HVL all L) {n : Nat} {x : Tm} (hL : L.length = n + 1) (hx : (popX L n)[n]? = some x) :
    HVL all ((popX L n).take n) ∧ (∀ y, y ∈ L ↔ y = x ∨ y ∈ (popX L n).take n) ∧ (∀ y ∈ (popX L n).take n, y.start ≠ x.start ∧ LtT x y) := by
  have hp := pop_P hL hx
  have hm : ∀ y, y ∈ L ↔ y = x ∨ y ∈ (popX L n).take n := fun y => by rw [← hp.mem_iff, List.mem_cons]
  have hnd : ((x :: (popX L n).take n).map Tm.start).Nodup := (hp.map Tm.start).symm.nodup h.nd
  rw [List.map_cons, List.nodup_cons] at hnd
  have hne : ∀ y ∈ (popX L n).take n, y.start ≠ x.start := fun y hy e => hnd.1 (List.mem_map.2 ⟨y, hy, e⟩)
  refine ⟨⟨pop_ok hL h.ho, hnd.2, fun y hy => h.pos y ((hm y).2 (.inr hy)), fun y hy => h.coh y ((hm y).2 (.inr hy)), h.ids⟩, hm, fun y hy => ⟨hne y hy, ?_⟩⟩
  have h1 := root_lt h.ho hL hx ((hm y).2 (.inr hy))
  have h2 := hne y hy
  unfold LtT at *
  omega

structure HV (S : WS) : Prop where
  l : HVL S.all S.due
  top : ∀ x ∈ S.due, x.start ≤ S.starts
  full : ∀ id g t, lookI S.all id = some (g, t) → 0 < t.start → ∃ x ∈ S.due, x.id = id ∧ x.start = t.start

def Tm.fd (t : Tm) : Fd := ⟨t.id, t.prog, t.at_, t.when⟩
def armedTo (to : Int) (t : Tm) : Bool := decide (0 < t.start) && decide (t.when ≤ to)
def offTo (to : Int) (y : Nat × Tm) : Nat × Tm := (y.1, if armedTo to y.2 then { y.2 with start := 0 } else y.2)

theorem cntB_false {S : WS} {x : Tm} (h : cntB S x = false) {g : Nat} {t : Tm} (hl : lookI S.all x.id = some (g, t)) (hs : t.start = x.start) : ¬ 0 < t.start := by
  unfold cntB at h
  simp only [hl] at h
  simp only [Bool.and_eq_false_iff, beq_eq_false_iff_ne, ne_eq, decide_eq_false_iff_not] at h
  rcases h with h | h
  · exact absurd hs h
  · exact h

theorem offTo_id {to : Int} {y : Nat × Tm} (h : armedTo to y.2 = false) : offTo to y = y := by
  unfold offTo
  rw [h]
  rfl

/-- what a tick does, in plain -/
theorem Ticks.law {to : Int} {S S' : WS} {o : List Fd} (h : Ticks to S o S') : HV S →
    ∃ ys : List Tm, o = ys.map Tm.fd ∧ ys.Pairwise LtT ∧ (∀ t, t ∈ ys ↔ ∃ id g, lookI S.all id = some (g, t) ∧ armedTo to t = true) ∧ (∀ id, lookI S'.all id = (lookI S.all id).map (offTo to)) ∧ HV S' ∧ S'.now = S.now ∧ S'.starts = S.starts := by
  have none_armed : ∀ S : WS, HV S → (∀ x ∈ S.due, to < x.when) → ∀ id g t, lookI S.all id = some (g, t) → armedTo to t = false := by
    intro S hv hw id g t hl
    unfold armedTo
    by_cases hp : 0 < t.start
    · obtain ⟨x, hx, h1, h2⟩ := hv.full id g t hl hp
      have h3 := hv.l.coh x hx g t (by rw [h1]; exact hl) h2.symm
      have := hw x hx
      simp only [Bool.and_eq_false_iff, decide_eq_false_iff_not]
      right
      omega
    · simp [hp]
  have stop : ∀ S : WS, HV S → (∀ x ∈ S.due, to < x.when) → ∃ ys : List Tm, ([] : List Fd) = ys.map Tm.fd ∧ ys.Pairwise LtT ∧ (∀ t, t ∈ ys ↔ ∃ id g, lookI S.all id = some (g, t) ∧ armedTo to t = true) ∧ (∀ id, lookI S.all id = (lookI S.all id).map (offTo to)) ∧ HV S ∧ S.now = S.now ∧ S.starts = S.starts := by
    intro S hv hw
    refine ⟨[], rfl, List.Pairwise.nil, fun t => ⟨fun h => (nomatch h), fun ⟨id, g, hl, ha⟩ => ?_⟩, fun id => ?_, hv, rfl, rfl⟩
    · have := none_armed S hv hw id g t hl
      rw [this] at ha
      cases ha
    · cases hl : lookI S.all id with
      | none => rfl
      | some y =>
        obtain ⟨g, t⟩ := y
        have := none_armed S hv hw id g t hl
        rw [Option.map_some, offTo_id this]
  induction h with
  | @stop0 S h => intro hv; exact stop S hv (by rw [h]; simp)
  | @stop1 S d r h1 h2 =>
    intro hv
    exact stop S hv (fun x hx => by have := root_when hv.l.ho h1 hx; omega)
  | @skip S S' m x d r o h1 h2 h3 h4 h5 _ ih =>
    intro hv
    obtain ⟨p1, p2, p3⟩ := hv.l.pop h3 h4
    have hv' : HV { S with due := (popX S.due m).take m } := by
      refine ⟨p1, fun y hy => hv.top y ((p2 y).2 (.inr hy)), fun id g t hl hp => ?_⟩
      obtain ⟨y, hy, e1, e2⟩ := hv.full id g t hl hp
      rcases (p2 y).1 hy with rfl | hy'
      · exact absurd hp (cntB_false h5 (g := g) (t := t) (by rw [e1]; exact hl) e2.symm)
      · exact ⟨y, hy', e1, e2⟩
    exact ih hv'
  | @fire S S' m x d r o gg t h1 h2 h3 h4 h5 h6 h7 _ ih =>
    intro hv
    obtain ⟨p1, p2, p3⟩ := hv.l.pop h3 h4
    have hxd : x = d := by
      have := pop_root h3
      rw [h4, h1] at this
      simpa using this
    have hxm : x ∈ S.due := (p2 x).2 (.inl rfl)
    have htw := hv.l.coh x hxm gg t h5 h6
    have hta : armedTo to t = true := by
      unfold armedTo
      simp only [Bool.and_eq_true, decide_eq_true_eq]
      exact ⟨h7, by rw [htw, hxd]; exact h2⟩
    have hid := hv.l.ids x.id gg t h5
    have hlu : ∀ id, lookI (updI S.all x.id (gg, { t with start := 0 })) id = if x.id = id then some (gg, { t with start := 0 }) else lookI S.all id := fun id => look_upd
    have hv' : HV { S with due := (popX S.due m).take m, all := updI S.all x.id (gg, { t with start := 0 }) } := by
      refine ⟨⟨p1.ho, p1.nd, p1.pos, fun y hy g' t' hl hs => ?_, fun id g' t' hl => ?_⟩, fun y hy => hv.top y ((p2 y).2 (.inr hy)), fun id g' t' hl hp => ?_⟩
      · have hl : (if x.id = y.id then some (gg, ({ t with start := 0 } : Tm)) else lookI S.all y.id) = some (g', t') := by rw [← hlu]; exact hl
        split at hl
        · simp only [Option.some.injEq, Prod.mk.injEq] at hl
          have := p1.pos y hy
          rw [← hl.2] at hs
          simp only at hs
          omega
        · exact p1.coh y hy g' t' hl hs
      · have hl : (if x.id = id then some (gg, ({ t with start := 0 } : Tm)) else lookI S.all id) = some (g', t') := by rw [← hlu]; exact hl
        split at hl
        · rename_i e
          simp only [Option.some.injEq, Prod.mk.injEq] at hl
          rw [← hl.2]
          exact ⟨by simp only; rw [hid.1, e], Int.le_refl _⟩
        · exact hv.l.ids id g' t' hl
      · have hl : (if x.id = id then some (gg, ({ t with start := 0 } : Tm)) else lookI S.all id) = some (g', t') := by rw [← hlu]; exact hl
        split at hl
        · simp only [Option.some.injEq, Prod.mk.injEq] at hl
          rw [← hl.2] at hp
          simp only at hp
          omega
        · rename_i e
          obtain ⟨y, hy, e1, e2⟩ := hv.full id g' t' hl hp
          rcases (p2 y).1 hy with rfl | hy'
          · exact absurd e1 e
          · exact ⟨y, hy', e1, e2⟩
    obtain ⟨ys, i1, i2, i3, i4, i5, i6, i7⟩ := ih hv'
    refine ⟨t :: ys, by rw [i1]; rfl, List.pairwise_cons.2 ⟨fun u hu => ?_, i2⟩, fun u => ?_, fun id => ?_, i5, i6, i7⟩
    · obtain ⟨id, g', hl, ha⟩ := (i3 u).1 hu
      have hl : (if x.id = id then some (gg, ({ t with start := 0 } : Tm)) else lookI S.all id) = some (g', u) := by rw [← hlu]; exact hl
      have hp : 0 < u.start := by
        unfold armedTo at ha
        simp only [Bool.and_eq_true, decide_eq_true_eq] at ha
        exact ha.1
      split at hl
      · simp only [Option.some.injEq, Prod.mk.injEq] at hl
        rw [← hl.2] at hp
        simp only at hp
        omega
      · rename_i e
        obtain ⟨y, hy, e1, e2⟩ := hv.full id g' u hl hp
        rcases (p2 y).1 hy with rfl | hy'
        · exact absurd e1 e
        · have h1 := (p3 y hy').2
          have h2 := hv.l.coh y hy g' u (by rw [e1]; exact hl) e2.symm
          unfold LtT at *
          omega
    · rw [List.mem_cons, i3]
      constructor
      · rintro (rfl | ⟨id, g', hl, ha⟩)
        · exact ⟨x.id, gg, h5, hta⟩
        · have hl : (if x.id = id then some (gg, ({ t with start := 0 } : Tm)) else lookI S.all id) = some (g', u) := by rw [← hlu]; exact hl
          split at hl
          · simp only [Option.some.injEq, Prod.mk.injEq] at hl
            rw [← hl.2] at ha
            simp [armedTo] at ha
          · exact ⟨id, g', hl, ha⟩
      · rintro ⟨id, g', hl, ha⟩
        by_cases e : x.id = id
        · rw [← e, h5] at hl
          simp only [Option.some.injEq, Prod.mk.injEq] at hl
          exact .inl hl.2.symm
        · refine .inr ⟨id, g', ?_, ha⟩
          show lookI (updI S.all x.id (gg, { t with start := 0 })) id = _
          rw [hlu, if_neg e]
          exact hl
    · rw [i4 id]
      show (lookI (updI S.all x.id (gg, { t with start := 0 })) id).map (offTo to) = _
      rw [hlu]
      by_cases e : x.id = id
      · rw [if_pos e, ← e, h5]
        simp only [Option.map_some, Option.some.injEq]
        unfold offTo
        simp only [hta, if_true]
        simp [armedTo]
      · rw [if_neg e]

end Go.Proofs.Ytaehmaocibimeaa
