import Derived.Test.YtaehmaocibimeaaP1
set_option linter.unusedSimpArgs false
set_option linter.unusedVariables false
namespace Go.Proofs.Ytaehmaocibimeaa

def era (S : WS) : WS := { S with all := S.all.map fun x => (x.1, ((0 : Nat), x.2.2)) }
def zn (S : WS) : WS := { S with now := 0 }

theorem look_era (l : List (Int × (Nat × Tm))) (x : Int) : lookI (l.map fun x => (x.1, ((0 : Nat), x.2.2))) x = (lookI l x).map fun y => ((0 : Nat), y.2) := by
  induction l with
  | nil => rfl
  | cons y r ih =>
    obtain ⟨k, g, t⟩ := y
    simp only [List.map_cons, lookI]
    split
    · rfl
    · exact ih
theorem upd_era (l : List (Int × (Nat × Tm))) (x : Int) (g : Nat) (t : Tm) : (updI l x (g, t)).map (fun x => (x.1, ((0 : Nat), x.2.2))) = updI (l.map fun x => (x.1, ((0 : Nat), x.2.2))) x ((0 : Nat), t) := by
  induction l with
  | nil => rfl
  | cons y r ih =>
    obtain ⟨k, v⟩ := y
    simp only [updI, List.map_cons]
    split
    · simp
    · simp [ih]

theorem cnt_era (S : WS) (x : Tm) : cntB (era S) x = cntB S x := by
  unfold cntB era
  simp only [look_era]
  cases lookI S.all x.id with
  | none => rfl
  | some y => rfl

theorem Ticks.era {to : Int} {S S' : WS} {o : List Fd} (h : Ticks to S o S') : Ticks to (era S) o (era S') := by
  induction h with
  | stop0 h => exact .stop0 h
  | stop1 h1 h2 => exact .stop1 h1 h2
  | skip h1 h2 h3 h4 h5 _ ih => exact .skip h1 h2 h3 h4 ((cnt_era _ _).trans h5) ih
  | @fire S S' n x d r o g t h1 h2 h3 h4 h5 h6 h7 _ ih =>
    refine .fire (g := 0) (t := t) h1 h2 h3 h4 ?_ h6 h7 ?_
    · show lookI (S.all.map _) x.id = _
      rw [look_era, h5]; rfl
    · have : Go.Proofs.Ytaehmaocibimeaa.era { S with due := (popX S.due n).take n, all := updI S.all x.id (g, { t with start := 0 }) } = { Go.Proofs.Ytaehmaocibimeaa.era S with due := (popX (Go.Proofs.Ytaehmaocibimeaa.era S).due n).take n, all := updI (Go.Proofs.Ytaehmaocibimeaa.era S).all x.id (0, { t with start := 0 }) } := by
        unfold Go.Proofs.Ytaehmaocibimeaa.era
        simp only [upd_era]
      rw [← this]
      exact ih

theorem Ticks.zn {to : Int} {S S' : WS} {o : List Fd} (h : Ticks to S o S') : Ticks to (zn S) o (zn S') := by
  induction h with
  | stop0 h => exact .stop0 h
  | stop1 h1 h2 => exact .stop1 h1 h2
  | skip h1 h2 h3 h4 h5 _ ih => exact .skip h1 h2 h3 h4 h5 ih
  | fire h1 h2 h3 h4 h5 h6 h7 _ ih => exact .fire h1 h2 h3 h4 h5 h6 h7 ih

theorem Ticks.det {to : Int} {S S1 : WS} {o : List Fd} (h : Ticks to S o S1) : ∀ {o2 : List Fd} {S2 : WS}, Ticks to S o2 S2 → o = o2 ∧ S1 = S2 := by
  induction h with
  | stop0 h =>
    intro o2 S2 h2
    cases h2 with
    | stop0 => exact ⟨rfl, rfl⟩
    | stop1 h3 _ => exact ⟨rfl, rfl⟩
    | skip h3 => rw [h] at h3; cases h3
    | fire h3 => rw [h] at h3; cases h3
  | stop1 h h' =>
    intro o2 S2 h2
    cases h2 with
    | stop0 h3 => exact ⟨rfl, rfl⟩
    | stop1 h3 _ => exact ⟨rfl, rfl⟩
    | skip h3 h4 => rw [h] at h3; cases h3; omega
    | fire h3 h4 => rw [h] at h3; cases h3; omega
  | skip h1 h2 h3 h4 h5 _ ih =>
    intro o2 S2 hh
    cases hh with
    | stop0 g1 => rw [h1] at g1; cases g1
    | stop1 g1 g2 => rw [h1] at g1; cases g1; omega
    | skip g1 g2 g3 g4 g5 g6 =>
      rw [h3] at g3; cases g3
      rw [h4] at g4; cases g4
      exact ih g6
    | fire g1 g2 g3 g4 g5 g6 g7 g8 =>
      rw [h3] at g3; cases g3
      rw [h4] at g4; cases g4
      unfold cntB at h5
      simp only [g5] at h5
      simp [g6] at h5
      omega
  | fire h1 h2 h3 h4 h5 h6 h7 _ ih =>
    intro o2 S2 hh
    cases hh with
    | stop0 g1 => rw [h1] at g1; cases g1
    | stop1 g1 g2 => rw [h1] at g1; cases g1; omega
    | skip g1 g2 g3 g4 g5 g6 =>
      rw [h3] at g3; cases g3
      rw [h4] at g4; cases g4
      unfold cntB at g5
      simp only [h5] at g5
      simp [h6] at g5
      omega
    | fire g1 g2 g3 g4 g5 g6 g7 g8 =>
      rw [h3] at g3; cases g3
      rw [h4] at g4; cases g4
      rw [h5] at g5; cases g5
      obtain ⟨rfl, rfl⟩ := ih g8
      exact ⟨rfl, rfl⟩

theorem Ticks.comp {t1 t2 : Int} (ht : t1 ≤ t2) {S S1 : WS} {o : List Fd} (h : Ticks t1 S o S1) : ∀ {o2 : List Fd} {S2 : WS}, Ticks t2 S1 o2 S2 → Ticks t2 S (o ++ o2) S2 := by
  induction h with
  | stop0 h => intro o2 S2 h2; exact h2
  | stop1 h h' => intro o2 S2 h2; exact h2
  | skip h1 h2 h3 h4 h5 _ ih => intro o2 S2 hh; exact .skip h1 (by omega) h3 h4 h5 (ih hh)
  | fire h1 h2 h3 h4 h5 h6 h7 _ ih => intro o2 S2 hh; exact .fire h1 (by omega) h3 h4 h5 h6 h7 (ih hh)

structure Good (A : Int → Int) (n : Int) (S : WS) : Prop where
  all : ∀ x ∈ S.all, 0 ≤ x.1 ∧ x.1 < n ∧ x.2.2.id = x.1 ∧ x.2.2.when = A x.1
  due : ∀ x ∈ S.due, x.when = A x.id
  ho : HO S.due

theorem Ticks.good {A : Int → Int} {n : Int} {to : Int} {S S' : WS} {o : List Fd} (h : Ticks to S o S') : Good A n S →
    Good A n S' ∧ (∀ f ∈ o, 0 ≤ f.id ∧ f.id < n ∧ f.when = A f.id ∧ f.when ≤ to ∧ ∀ B, (∀ x ∈ S.due, B < x.when) → B < f.when) ∧ ∀ x ∈ S'.due, to < x.when := by
  induction h with
  | stop0 h => intro g; exact ⟨g, by simp, by rw [h]; simp⟩
  | stop1 h1 h2 =>
    intro g
    refine ⟨g, by simp, fun x hx => ?_⟩
    have := root_when g.ho h1 hx
    omega
  | @skip S S' m x d r o h1 h2 h3 h4 h5 _ ih =>
    intro g
    have g' : Good A n { S with due := (popX S.due m).take m } := ⟨g.all, fun x hx => g.due x (pop_mem h3 hx), pop_ok h3 g.ho⟩
    obtain ⟨i1, i2, i3⟩ := ih g'
    refine ⟨i1, fun f hf => ?_, i3⟩
    obtain ⟨a1, a2, a3, a4, a5⟩ := i2 f hf
    exact ⟨a1, a2, a3, a4, fun B hB => a5 B (fun x hx => hB x (pop_mem h3 hx))⟩
  | @fire S S' m x d r o gg t h1 h2 h3 h4 h5 h6 h7 _ ih =>
    intro g
    have hroot := pop_root h3
    rw [h4, h1] at hroot
    simp only [List.getElem?_cons_zero, Option.some.injEq] at hroot
    subst hroot
    have hx : x ∈ S.due := by rw [h1]; exact List.mem_cons_self ..
    have hm := g.all _ (look_mem h5)
    have hxw := g.due x hx
    have g' : Good A n { S with due := (popX S.due m).take m, all := updI S.all x.id (gg, { t with start := 0 }) } := by
      refine ⟨fun y hy => ?_, fun y hy => g.due y (pop_mem h3 hy), pop_ok h3 g.ho⟩
      rcases mem_upd hy with rfl | hy
      · exact hm
      · exact g.all y hy
    obtain ⟨i1, i2, i3⟩ := ih g'
    refine ⟨i1, fun f hf => ?_, i3⟩
    rcases List.mem_cons.1 hf with rfl | hf
    · obtain ⟨m1, m2, m3, m4⟩ := hm
      simp only at m1 m2 m3 m4
      refine ⟨by simp only; omega, by simp only; omega, by simp only; rw [m3, m4], by simp only; omega, fun B hB => ?_⟩
      have := hB x hx
      simp only
      omega
    · obtain ⟨a1, a2, a3, a4, a5⟩ := i2 f hf
      exact ⟨a1, a2, a3, a4, fun B hB => a5 B (fun x hx => hB x (pop_mem h3 hx))⟩

theorem Good.zn {A : Int → Int} {n : Int} {S : WS} (h : Good A n S) (k : Int) : Good A n { S with now := k } := ⟨h.all, h.due, h.ho⟩

theorem upd_app {α : Type} {l : List (Int × α)} {k : Int} {u u' : α} (h : lookI l k = none) : updI (l ++ [(k, u)]) k u' = l ++ [(k, u')] := by
  induction l with
  | nil => simp [updI]
  | cons y r ih =>
    obtain ⟨k2, v⟩ := y
    simp only [lookI] at h
    split at h
    · cases h
    · rename_i e
      simp only [List.cons_append, updI, e, if_false, ih h]
theorem look_app {α : Type} {l : List (Int × α)} {k : Int} {u : α} (h : lookI l k = none) : lookI (l ++ [(k, u)]) k = some u := by
  induction l with
  | nil => simp [lookI]
  | cons y r ih =>
    obtain ⟨k2, v⟩ := y
    simp only [lookI] at h
    split at h
    · cases h
    · rename_i e
      simp only [List.cons_append, lookI, e, if_false, ih h]
theorem look_none {α : Type} {l : List (Int × α)} {k : Int} (h : ∀ x ∈ l, x.1 ≠ k) : lookI l k = none := by
  induction l with
  | nil => rfl
  | cons y r ih =>
    obtain ⟨k2, v⟩ := y
    simp only [lookI]
    rw [if_neg (h _ (List.mem_cons_self ..))]
    exact ih (fun x hx => h x (List.mem_cons_of_mem _ hx))

/-- a timer made, given a callback, and started -/
def addT (S : WS) (g : Nat) (id pr at_ after : Int) : WS :=
  { S with starts := S.starts + 1, all := S.all ++ [(id, (g, ⟨id, pr, at_, true, S.now + after, S.starts + 1⟩))], due := fixL (S.due ++ [⟨id, pr, at_, true, S.now + after, S.starts + 1⟩]) S.due.length }

theorem era_addT (S : WS) (g : Nat) (id pr at_ after : Int) : era (addT S g id pr at_ after) = addT (era S) 0 id pr at_ after := by
  simp [era, addT]

theorem addT_good {A : Int → Int} {n : Int} {S : WS} (h : Good A n S) (hn : 0 ≤ n) {g : Nat} {pr at_ after : Int} (ha : S.now + after = A n) : Good A (n + 1) (addT S g n pr at_ after) := by
  refine ⟨fun x hx => ?_, fun x hx => ?_, push_ok h.ho _⟩
  · rcases List.mem_append.1 hx with hx | hx
    · obtain ⟨a1, a2, a3, a4⟩ := h.all x hx
      exact ⟨a1, by omega, a3, a4⟩
    · rw [List.mem_singleton.1 hx]
      exact ⟨hn, by simp only; omega, rfl, ha⟩
  · rcases (push_mem _ _ x).1 hx with hx | rfl
    · exact h.due x hx
    · exact ha

end Go.Proofs.Ytaehmaocibimeaa
