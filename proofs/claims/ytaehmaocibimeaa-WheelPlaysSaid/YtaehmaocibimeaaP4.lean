import Derived.Test.YtaehmaocibimeaaP3
set_option linter.unusedSimpArgs false
set_option linter.unusedVariables false
namespace Go.Proofs.Ytaehmaocibimeaa

theorem HV.empty : HV ⟨0, 0, [], []⟩ :=
  ⟨⟨fun j h0 hj => by simp at hj, List.nodup_nil, by simp, by simp, fun id g t h => by cases h⟩, by simp, fun id g t h => by cases h⟩

/-- an entry of the table is changed, but for its start and its time -/
theorem HV.upd {S : WS} (h : HV S) {id : Int} {g : Nat} {t' : Tm} (hid : t'.id = id)
    (hs : t'.start = 0 ∨ ∃ g0 t0, lookI S.all id = some (g0, t0) ∧ t'.start = t0.start ∧ t'.when = t0.when) : HV { S with all := updI S.all id (g, t') } := by
  have hlu : ∀ id', lookI (updI S.all id (g, t')) id' = if id = id' then some (g, t') else lookI S.all id' := fun id' => look_upd
  refine ⟨⟨h.l.ho, h.l.nd, h.l.pos, fun y hy g2 t2 hl hst => ?_, fun id2 g2 t2 hl => ?_⟩, h.top, fun id2 g2 t2 hl hp => ?_⟩
  · rw [hlu] at hl
    split at hl
    · rename_i e
      simp only [Option.some.injEq, Prod.mk.injEq] at hl
      obtain ⟨-, rfl⟩ := hl
      have := h.l.pos y hy
      rcases hs with h0 | ⟨g0, t0, hl0, h1, h2⟩
      · omega
      · rw [h2]
        exact h.l.coh y hy g0 t0 (by rw [← e]; exact hl0) (by omega)
    · exact h.l.coh y hy g2 t2 hl hst
  · have hl : lookI (updI S.all id (g, t')) id2 = some (g2, t2) := hl
    rw [hlu] at hl
    split at hl
    · rename_i e
      simp only [Option.some.injEq, Prod.mk.injEq] at hl
      obtain ⟨-, rfl⟩ := hl
      refine ⟨hid.trans e, ?_⟩
      rcases hs with h0 | ⟨g0, t0, hl0, h1, h2⟩
      · omega
      · have := (h.l.ids id g0 t0 hl0).2
        omega
    · exact h.l.ids id2 g2 t2 hl
  · have hl : lookI (updI S.all id (g, t')) id2 = some (g2, t2) := hl
    rw [hlu] at hl
    split at hl
    · rename_i e
      simp only [Option.some.injEq, Prod.mk.injEq] at hl
      obtain ⟨-, rfl⟩ := hl
      rcases hs with h0 | ⟨g0, t0, hl0, h1, h2⟩
      · omega
      · obtain ⟨x, hx, e1, e2⟩ := h.full id g0 t0 hl0 (by omega)
        exact ⟨x, hx, by omega, by omega⟩
    · exact h.full id2 g2 t2 hl hp

theorem HV.withNow {S : WS} (h : HV S) (n : Int) : HV { S with now := n } := ⟨h.l, h.top, h.full⟩

theorem HV.start {S : WS} (h : HV S) {id : Int} {g : Nat} {t : Tm} (hl : lookI S.all id = some (g, t)) (hs : 0 ≤ S.starts) (when : Int) :
    HV { S with starts := S.starts + 1, all := updI S.all id (g, t.go when (S.starts + 1)), due := fixL (S.due ++ [t.go when (S.starts + 1)]) S.due.length } := by
  have hlu : ∀ id', lookI (updI S.all id (g, t.go when (S.starts + 1))) id' = if id = id' then some (g, t.go when (S.starts + 1)) else lookI S.all id' := fun id' => look_upd
  have hP := push_P S.due (t.go when (S.starts + 1))
  have hm : ∀ y, y ∈ fixL (S.due ++ [t.go when (S.starts + 1)]) S.due.length ↔ y = t.go when (S.starts + 1) ∨ y ∈ S.due := fun y => by rw [hP.mem_iff, List.mem_cons]
  have hid := (h.l.ids id g t hl).1
  have hgs : (t.go when (S.starts + 1)).start = S.starts + 1 := rfl
  have hgi : (t.go when (S.starts + 1)).id = t.id := rfl
  refine ⟨⟨push_ok h.l.ho _, ?_, fun y hy => ?_, fun y hy g2 t2 hl2 hst => ?_, fun id2 g2 t2 hl2 => ?_⟩, fun y hy => ?_, fun id2 g2 t2 hl2 hp => ?_⟩
  · refine (hP.map Tm.start).symm.nodup ?_
    rw [List.map_cons, List.nodup_cons]
    refine ⟨fun hmem => ?_, h.l.nd⟩
    obtain ⟨y, hy, e⟩ := List.mem_map.1 hmem
    have := h.top y hy
    omega
  · rcases (hm y).1 hy with rfl | hy
    · omega
    · exact h.l.pos y hy
  · have hl2 : lookI (updI S.all id (g, t.go when (S.starts + 1))) y.id = some (g2, t2) := hl2
    rw [hlu] at hl2
    rcases (hm y).1 hy with rfl | hy
    · rw [hgi, hid, if_pos rfl] at hl2
      simp only [Option.some.injEq, Prod.mk.injEq] at hl2
      rw [← hl2.2]
    · split at hl2
      · simp only [Option.some.injEq, Prod.mk.injEq] at hl2
        obtain ⟨-, rfl⟩ := hl2
        have := h.top y hy
        omega
      · exact h.l.coh y hy g2 t2 hl2 hst
  · have hl2 : lookI (updI S.all id (g, t.go when (S.starts + 1))) id2 = some (g2, t2) := hl2
    rw [hlu] at hl2
    split at hl2
    · rename_i e
      simp only [Option.some.injEq, Prod.mk.injEq] at hl2
      obtain ⟨-, rfl⟩ := hl2
      exact ⟨by rw [hgi, hid, e], by omega⟩
    · exact h.l.ids id2 g2 t2 hl2
  · show y.start ≤ S.starts + 1
    rcases (hm y).1 hy with rfl | hy
    · omega
    · have := h.top y hy; omega
  · have hl2 : lookI (updI S.all id (g, t.go when (S.starts + 1))) id2 = some (g2, t2) := hl2
    rw [hlu] at hl2
    split at hl2
    · rename_i e
      simp only [Option.some.injEq, Prod.mk.injEq] at hl2
      obtain ⟨-, rfl⟩ := hl2
      exact ⟨_, (hm _).2 (.inl rfl), by rw [hgi, hid, e], rfl⟩
    · obtain ⟨x, hx, e1, e2⟩ := h.full id2 g2 t2 hl2 hp
      exact ⟨x, (hm x).2 (.inr hx), e1, e2⟩

theorem look_del {α : Type} {l : List (Int × α)} (hn : l.Pairwise fun x y => x.1 ≠ y.1) (x y : Int) : lookI (delI l x) y = if x = y then none else lookI l y := by
  induction l with
  | nil => simp [delI, lookI]
  | cons z r ih =>
    obtain ⟨k, v⟩ := z
    obtain ⟨h1, h2⟩ := List.pairwise_cons.1 hn
    simp only [delI]
    split
    · rename_i e
      split
      · rename_i e2
        refine look_none fun z hz => ?_
        have := h1 z hz
        simp only at this
        omega
      · rename_i e2
        simp only [lookI]
        rw [if_neg (by omega)]
    · rename_i e
      simp only [lookI]
      rw [ih h2]
      split
      · rename_i e2
        rw [if_neg (by omega)]
      · rfl

theorem HV.del {S : WS} (h : HV S) (hn : S.all.Pairwise fun x y => x.1 ≠ y.1) (id : Int) : HV { S with all := delI S.all id } := by
  have hld : ∀ id' y, lookI (delI S.all id) id' = some y → lookI S.all id' = some y := fun id' y hl => by
    rw [look_del hn] at hl
    split at hl
    · cases hl
    · exact hl
  exact ⟨⟨h.l.ho, h.l.nd, h.l.pos, fun y hy g t hl => h.l.coh y hy g t (hld _ _ hl), fun id2 g t hl => h.l.ids id2 g t (hld _ _ hl)⟩, h.top, fun id2 g t hl => h.full id2 g t (hld _ _ hl)⟩

/-- the armed ones' telling, round by round -/
inductive Arms (S : WS) : List Tm → List Int → Prop
  | nil : Arms S [] []
  | skip {L : List Tm} {n : Nat} {x : Tm} {o : List Int} : L.length = n + 1 → (popX L n)[n]? = some x → cntB S x = false → Arms S ((popX L n).take n) o → Arms S L o
  | take {L : List Tm} {n : Nat} {x : Tm} {o : List Int} : L.length = n + 1 → (popX L n)[n]? = some x → cntB S x = true → Arms S ((popX L n).take n) o → Arms S L (x.id :: o)

theorem Arms.law0 {S : WS} {L : List Tm} {o : List Int} (h : Arms S L o) : HVL S.all L →
    ∃ ys : List Tm, o = ys.map Tm.id ∧ ys.Pairwise LtT ∧ (∀ t, t ∈ ys ↔ ∃ id g, lookI S.all id = some (g, t) ∧ 0 < t.start ∧ ∃ x ∈ L, x.id = id ∧ x.start = t.start) := by
  induction h with
  | nil => intro hv; exact ⟨[], rfl, List.Pairwise.nil, fun t => ⟨fun h => (nomatch h), fun ⟨_, _, _, _, x, hx, _⟩ => (nomatch hx)⟩⟩
  | @skip L n x o h1 h2 h3 _ ih =>
    intro hv
    obtain ⟨p1, p2, p3⟩ := hv.pop h1 h2
    obtain ⟨ys, i1, i2, i3⟩ := ih p1
    refine ⟨ys, i1, i2, fun t => (i3 t).trans ?_⟩
    constructor
    · rintro ⟨id, g, hl, hp, y, hy, e1, e2⟩
      exact ⟨id, g, hl, hp, y, (p2 y).2 (.inr hy), e1, e2⟩
    · rintro ⟨id, g, hl, hp, y, hy, e1, e2⟩
      rcases (p2 y).1 hy with rfl | hy'
      · exact absurd hp (cntB_false h3 (g := g) (t := t) (by rw [e1]; exact hl) e2.symm)
      · exact ⟨id, g, hl, hp, y, hy', e1, e2⟩
  | @take L n x o h1 h2 h3 _ ih =>
    intro hv
    obtain ⟨p1, p2, p3⟩ := hv.pop h1 h2
    obtain ⟨ys, i1, i2, i3⟩ := ih p1
    obtain ⟨g, t, hl, hst, hpos⟩ := cntB_true h3
    have hxm : x ∈ L := (p2 x).2 (.inl rfl)
    have htw := hv.coh x hxm g t hl hst
    have hid := (hv.ids x.id g t hl).1
    refine ⟨t :: ys, by rw [i1, List.map_cons, hid], List.pairwise_cons.2 ⟨fun u hu => ?_, i2⟩, fun u => ?_⟩
    · obtain ⟨id, g', hl', hp, y, hy, e1, e2⟩ := (i3 u).1 hu
      have h1 := (p3 y hy).2
      have h2 := hv.coh y ((p2 y).2 (.inr hy)) g' u (by rw [e1]; exact hl') e2.symm
      unfold LtT at *
      omega
    · rw [List.mem_cons, i3]
      constructor
      · rintro (rfl | ⟨id, g', hl', hp, y, hy, e1, e2⟩)
        · exact ⟨x.id, g, hl, hpos, x, hxm, rfl, hst.symm⟩
        · exact ⟨id, g', hl', hp, y, (p2 y).2 (.inr hy), e1, e2⟩
      · rintro ⟨id, g', hl', hp, y, hy, e1, e2⟩
        rcases (p2 y).1 hy with rfl | hy'
        · rw [← e1, hl] at hl'
          simp only [Option.some.injEq, Prod.mk.injEq] at hl'
          exact .inl hl'.2.symm
        · exact .inr ⟨id, g', hl', hp, y, hy', e1, e2⟩

theorem Arms.law {S : WS} {o : List Int} (h : Arms S S.due o) (hv : HV S) :
    ∃ ys : List Tm, o = ys.map Tm.id ∧ ys.Pairwise LtT ∧ (∀ t, t ∈ ys ↔ ∃ id g, lookI S.all id = some (g, t) ∧ 0 < t.start) := by
  obtain ⟨ys, h1, h2, h3⟩ := h.law0 hv.l
  refine ⟨ys, h1, h2, fun t => (h3 t).trans ?_⟩
  constructor
  · rintro ⟨id, g, hl, hp, _⟩
    exact ⟨id, g, hl, hp⟩
  · rintro ⟨id, g, hl, hp⟩
    exact ⟨id, g, hl, hp, hv.full id g t hl hp⟩

end Go.Proofs.Ytaehmaocibimeaa
