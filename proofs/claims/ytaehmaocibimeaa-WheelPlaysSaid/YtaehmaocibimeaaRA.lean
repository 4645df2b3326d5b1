import Derived.Test.YtaehmaocibimeaaR9
set_option linter.unusedSimpArgs false
set_option linter.unusedVariables false
namespace Go.Proofs.Ytaehmaocibimeaa
open Go.RowKit

/-! ### the document's list of timers, in plain -/
def lookR : List RT → Int → Option RT
  | [], _ => none
  | t :: r, id => if t.id = id then some t else lookR r id
def updR : List RT → Int → (RT → RT) → List RT
  | [], _, _ => []
  | t :: r, id, f => if t.id = id then f t :: r else t :: updR r id f

theorem look_pos : ∀ {l : List RT} {id : Int} {i : Nat}, posR l id = some i → ∃ t, l[i]? = some t ∧ lookR l id = some t ∧ t.id = id
  | [], _, _, h => by cases h
  | t :: r, id, i, h => by
    simp only [posR] at h
    simp only [lookR]
    split at h
    · rename_i e; cases h; exact ⟨t, rfl, if_pos e, e⟩
    · rename_i e
      cases hp : posR r id with
      | none => rw [hp] at h; cases h
      | some j =>
        rw [hp] at h
        simp only [Option.map_some, Option.some.injEq] at h
        subst h
        obtain ⟨u, h1, h2, h3⟩ := look_pos hp
        exact ⟨u, by simpa using h1, by rw [if_neg e]; exact h2, h3⟩
theorem look_pos_none : ∀ {l : List RT} {id : Int}, posR l id = none → lookR l id = none
  | [], _, _ => rfl
  | t :: r, id, h => by
    simp only [posR] at h
    simp only [lookR]
    split at h
    · cases h
    · rename_i e
      rw [if_neg e]
      cases hp : posR r id with
      | none => exact look_pos_none hp
      | some j => rw [hp] at h; cases h
theorem lookR_id : ∀ {l : List RT} {id : Int} {t : RT}, lookR l id = some t → t.id = id ∧ t ∈ l
  | [], _, _, h => by cases h
  | x :: r, id, t, h => by
    simp only [lookR] at h
    split at h
    · rename_i e; cases h; exact ⟨e, List.mem_cons_self ..⟩
    · have := lookR_id h; exact ⟨this.1, List.mem_cons_of_mem _ this.2⟩
theorem upd_set : ∀ {l : List RT} {id : Int} {i : Nat} {t : RT} (f : RT → RT), posR l id = some i → l[i]? = some t → l.set i (f t) = updR l id f
  | [], _, _, _, _, h, _ => by cases h
  | x :: r, id, i, t, f, h, ht => by
    simp only [posR] at h
    simp only [updR]
    split at h
    · rename_i e
      cases h
      rw [if_pos e]
      simp only [List.getElem?_cons_zero, Option.some.injEq] at ht
      subst ht
      rfl
    · rename_i e
      rw [if_neg e]
      cases hp : posR r id with
      | none => rw [hp] at h; cases h
      | some j =>
        rw [hp] at h
        simp only [Option.map_some, Option.some.injEq] at h
        subst h
        rw [List.getElem?_cons_succ] at ht
        rw [List.set_cons_succ, upd_set f hp ht]
theorem offAt_upd : ∀ (l : List RT) (id : Int), offAt l id = updR l id (fun t => { t with armed := false })
  | [], _ => rfl
  | t :: r, id => by simp only [offAt, updR, offAt_upd r id]
theorem updR_ids {f : RT → RT} (hf : ∀ t, (f t).id = t.id) : ∀ (l : List RT) (id : Int), (updR l id f).map RT.id = l.map RT.id
  | [], _ => rfl
  | t :: r, id => by
    simp only [updR]
    split
    · simp [hf]
    · simp only [List.map_cons, updR_ids hf r id]
theorem lookR_upd {f : RT → RT} (hf : ∀ t, (f t).id = t.id) : ∀ (l : List RT) (id id' : Int), lookR (updR l id f) id' = if id = id' then (lookR l id).map f else lookR l id'
  | [], id, id' => by simp [updR, lookR]
  | t :: r, id, id' => by
    simp only [updR]
    by_cases e : t.id = id
    · simp only [if_pos e, lookR, hf]
      by_cases e2 : t.id = id'
      · rw [if_pos e2, if_pos (e.symm.trans e2)]; simp [e]
      · rw [if_neg e2, if_neg (fun h => e2 (e.trans h)), if_neg e2]
    · simp only [if_neg e, lookR, lookR_upd hf r id id']
      by_cases e2 : t.id = id'
      · rw [if_pos e2, if_pos e2, if_neg (fun h => e (e2.trans h.symm))]
      · rw [if_neg e2, if_neg e2]
theorem mem_updR {f : RT → RT} : ∀ {l : List RT} {id : Int} {u : RT}, u ∈ updR l id f → u ∈ l ∨ ∃ t ∈ l, u = f t
  | [], _, _, h => by cases h
  | t :: r, id, u, h => by
    simp only [updR] at h
    split at h
    · rcases List.mem_cons.1 h with h | h
      · exact .inr ⟨t, List.mem_cons_self .., h⟩
      · exact .inl (List.mem_cons_of_mem _ h)
    · rcases List.mem_cons.1 h with h | h
      · exact .inl (by rw [h]; exact List.mem_cons_self ..)
      · rcases mem_updR h with h | ⟨t', h1, h2⟩
        · exact .inl (List.mem_cons_of_mem _ h)
        · exact .inr ⟨t', List.mem_cons_of_mem _ h1, h2⟩
theorem lookR_app : ∀ (l : List RT) (t : RT) (id : Int), lookR (l ++ [t]) id = match lookR l id with | some u => some u | none => if t.id = id then some t else none
  | [], t, id => by simp [lookR]
  | x :: r, t, id => by
    simp only [List.cons_append, lookR, lookR_app r t id]
    split <;> rfl
theorem lookR_mem : ∀ {l : List RT}, (l.map RT.id).Nodup → ∀ {t : RT}, t ∈ l → lookR l t.id = some t
  | [], _, t, h => by cases h
  | x :: r, hn, t, h => by
    simp only [List.map_cons, List.nodup_cons] at hn
    simp only [lookR]
    rcases List.mem_cons.1 h with rfl | h
    · rw [if_pos rfl]
    · rw [if_neg (fun e => hn.1 (by rw [e]; exact List.mem_map.2 ⟨t, h, rfl⟩))]
      exact lookR_mem hn.2 h
theorem lookR_none_of {l : List RT} {id : Int} (h : id ∉ l.map RT.id) : lookR l id = none := by
  cases hl : lookR l id with
  | none => rfl
  | some t =>
    obtain ⟨h1, h2⟩ := lookR_id hl
    exact absurd (List.mem_map.2 ⟨t, h2, h1⟩) h
theorem lookR_del : ∀ {l : List RT}, (l.map RT.id).Nodup → ∀ {id : Int} {i : Nat}, posR l id = some i → ∀ id', lookR (l.take i ++ l.drop (i + 1)) id' = if id = id' then none else lookR l id'
  | [], _, _, _, h, _ => by cases h
  | t :: r, hn, id, i, h, id' => by
    simp only [List.map_cons, List.nodup_cons] at hn
    simp only [posR] at h
    split at h
    · rename_i e
      cases h
      simp only [List.take_zero, List.nil_append, Nat.zero_add, List.drop_succ_cons, List.drop_zero, lookR]
      by_cases e2 : id = id'
      · rw [if_pos e2, ← e2, ← e]; exact lookR_none_of hn.1
      · rw [if_neg e2, if_neg (fun h => e2 (e.symm.trans h))]
    · rename_i e
      cases hp : posR r id with
      | none => rw [hp] at h; cases h
      | some j =>
        rw [hp] at h
        simp only [Option.map_some, Option.some.injEq] at h
        subst h
        simp only [List.take_succ_cons, List.drop_succ_cons, List.cons_append, lookR, lookR_del hn.2 hp id']
        by_cases e2 : t.id = id'
        · rw [if_pos e2, if_pos e2, if_neg (fun h => e (e2.trans h.symm))]
        · rw [if_neg e2, if_neg e2]
theorem nod_del {l : List RT} (h : (l.map RT.id).Nodup) (i : Nat) : ((l.take i ++ l.drop (i + 1)).map RT.id).Nodup := by
  rw [List.map_append, List.map_take, List.map_drop]
  rw [← List.eraseIdx_eq_take_drop_succ]
  exact h.eraseIdx i

def offB (b : Bool) (t : RT) : RT := if b = true then { t with armed := false } else t
theorem offB_true (b : Bool) (t : RT) : offB b { t with armed := false } = offB true t := by cases b <;> rfl
theorem lookR_offs : ∀ (xs l : List RT) (id : Int), lookR (offs l xs) id = (lookR l id).map (offB (xs.any fun x => x.id == id))
  | [], l, id => by
    show lookR l id = _
    cases lookR l id <;> rfl
  | x :: r, l, id => by
    show lookR (offs (offAt l x.id) r) id = _
    rw [lookR_offs r (offAt l x.id) id, offAt_upd, lookR_upd (f := fun t => { t with armed := false }) (fun _ => rfl)]
    by_cases e : x.id = id
    · have h : ((x :: r).any fun x => x.id == id) = true := by simp [e]
      rw [if_pos e, e, h]
      cases lookR l id
      · rfl
      · exact congrArg some (offB_true _ _)
    · have h : ((x :: r).any fun x => x.id == id) = r.any fun x => x.id == id := by simp [e]
      rw [if_neg e, h]
theorem offs_all : ∀ (xs l : List RT) {u : RT}, u ∈ offs l xs → ∃ t ∈ l, u.when = t.when ∧ u.order = t.order ∧ (u.armed = true → t.armed = true) ∧ u.id = t.id
  | [], l, u, h => ⟨u, h, rfl, rfl, fun h => h, rfl⟩
  | x :: r, l, u, h => by
    have h' : u ∈ offs (offAt l x.id) r := h
    obtain ⟨t, h1, h2, h3, h4, h5⟩ := offs_all r (offAt l x.id) h'
    rw [offAt_upd] at h1
    rcases mem_updR h1 with h1 | ⟨t', h0, rfl⟩
    · exact ⟨t, h1, h2, h3, h4, h5⟩
    · exact ⟨t', h0, h2, h3, (fun e => by have h9 := h4 e; cases h9), h5⟩

/-! ### the order of what is due -/
theorem RT.lt_iff {a b : RT} : a.lt b = true ↔ (a.when < b.when ∨ (a.when = b.when ∧ a.order < b.order)) := by
  unfold RT.lt
  simp
theorem insL_mem : ∀ {out : List RT} {t u : RT}, u ∈ insL out t ↔ u = t ∨ u ∈ out
  | [], t, u => by simp [insL]
  | x :: r, t, u => by
    simp only [insL]
    split
    · simp only [List.mem_cons, insL_mem (out := r)]
      constructor
      · rintro (h | h | h)
        · exact .inr (.inl h)
        · exact .inl h
        · exact .inr (.inr h)
      · rintro (h | h | h)
        · exact .inr (.inl h)
        · exact .inl h
        · exact .inr (.inr h)
    · simp only [List.mem_cons]
def LtR (a b : RT) : Prop := a.when < b.when ∨ (a.when = b.when ∧ a.order < b.order)
theorem insL_sorted : ∀ {out : List RT} {t : RT}, out.Pairwise LtR → (∀ x ∈ out, x.order ≠ t.order) → (insL out t).Pairwise LtR
  | [], t, _, _ => by simp [insL]
  | x :: r, t, h, hne => by
    obtain ⟨h1, h2⟩ := List.pairwise_cons.1 h
    simp only [insL]
    split
    · rename_i e
      rw [RT.lt_iff] at e
      refine List.pairwise_cons.2 ⟨fun y hy => ?_, insL_sorted h2 (fun y hy => hne y (List.mem_cons_of_mem _ hy))⟩
      rcases insL_mem.1 hy with rfl | hy
      · exact e
      · exact h1 y hy
    · rename_i e
      rw [RT.lt_iff] at e
      have h0 := hne x (List.mem_cons_self ..)
      refine List.pairwise_cons.2 ⟨fun y hy => ?_, h⟩
      rcases List.mem_cons.1 hy with rfl | hy
      · unfold LtR; omega
      · have := h1 y hy
        unfold LtR at *; omega
theorem dueL_mem (to : Int) : ∀ {l out : List RT} {u : RT}, u ∈ dueL to l out ↔ u ∈ out ∨ (u ∈ l ∧ u.armed = true ∧ u.when ≤ to)
  | [], out, u => by simp [dueL]
  | t :: r, out, u => by
    simp only [dueL, dueL_mem to (l := r), List.mem_cons]
    by_cases h : t.armed = true ∧ t.when ≤ to
    · rw [if_pos h, insL_mem]
      constructor
      · rintro ((rfl | h1) | h1)
        · exact .inr ⟨.inl rfl, h⟩
        · exact .inl h1
        · exact .inr ⟨.inr h1.1, h1.2⟩
      · rintro (h1 | ⟨rfl | h1, h2⟩)
        · exact .inl (.inr h1)
        · exact .inl (.inl rfl)
        · exact .inr ⟨h1, h2⟩
    · rw [if_neg h]
      constructor
      · rintro (h1 | h1)
        · exact .inl h1
        · exact .inr ⟨.inr h1.1, h1.2⟩
      · rintro (h1 | ⟨rfl | h1, h2⟩)
        · exact .inl h1
        · exact absurd h2 h
        · exact .inr ⟨h1, h2⟩
theorem dueL_sorted (to : Int) : ∀ {l out : List RT}, out.Pairwise LtR → (∀ x ∈ out, ∀ y ∈ l, y.armed = true → x.order ≠ y.order) → l.Pairwise (fun x y => x.armed = true → y.armed = true → x.order ≠ y.order) → (dueL to l out).Pairwise LtR
  | [], out, h, _, _ => h
  | t :: r, out, h, hne, hl => by
    obtain ⟨h1, h2⟩ := List.pairwise_cons.1 hl
    simp only [dueL]
    by_cases ha : t.armed = true ∧ t.when ≤ to
    · rw [if_pos ha]
      refine dueL_sorted to (insL_sorted h (fun x hx => hne x hx t (List.mem_cons_self ..) ha.1)) (fun x hx y hy hya => ?_) h2
      rcases insL_mem.1 hx with rfl | hx
      · exact h1 y hy ha.1 hya
      · exact hne x hx y (List.mem_cons_of_mem _ hy) hya
    · rw [if_neg ha]
      exact dueL_sorted to h (fun x hx y hy => hne x hx y (List.mem_cons_of_mem _ hy)) h2
theorem sorted_ext : ∀ {l l' : List Tm}, l.Pairwise LtT → l'.Pairwise LtT → (∀ t, t ∈ l ↔ t ∈ l') → l = l'
  | [], [], _, _, _ => rfl
  | [], y :: _, _, _, h => by have := (h y).2 (List.mem_cons_self ..); cases this
  | x :: _, [], _, _, h => by have := (h x).1 (List.mem_cons_self ..); cases this
  | x :: r, y :: r', h1, h2, h => by
    obtain ⟨a1, a2⟩ := List.pairwise_cons.1 h1
    obtain ⟨b1, b2⟩ := List.pairwise_cons.1 h2
    have hxy : x = y := by
      rcases List.mem_cons.1 ((h x).1 (List.mem_cons_self ..)) with e | e
      · exact e
      · rcases List.mem_cons.1 ((h y).2 (List.mem_cons_self ..)) with e2 | e2
        · exact e2.symm
        · have c1 := b1 x e
          have c2 := a1 y e2
          unfold LtT at c1 c2
          omega
    subst hxy
    rw [sorted_ext a2 b2 (fun t => ⟨fun ht => ?_, fun ht => ?_⟩)]
    · rcases List.mem_cons.1 ((h t).1 (List.mem_cons_of_mem _ ht)) with e | e
      · subst e; have := a1 t ht; unfold LtT at this; omega
      · exact e
    · rcases List.mem_cons.1 ((h t).2 (List.mem_cons_of_mem _ ht)) with e | e
      · subst e; have := b1 t ht; unfold LtT at this; omega
      · exact e

/-! ### the two wheels side by side -/
def RT.tm (t : RT) : Tm := ⟨t.id, t.prog, t.at_, t.set, t.when, if t.armed = true then t.order else 0⟩
structure Rl (S : WS) (R : RS) : Prop where
  hv : HV S
  now : S.now = R.now
  cnt : S.starts = R.count
  nod : (R.l.map RT.id).Nodup
  look : ∀ id, (lookI S.all id).map (·.2) = (lookR R.l id).map RT.tm
  ord : ∀ t ∈ R.l, t.armed = true → 0 < t.order
  wh : ∀ t ∈ R.l, t.when ≤ 18446744073709551615

theorem Rl.lacks {S : WS} {R : RS} (h : Rl S R) {id : Int} (hp : posR R.l id = none) : lookI S.all id = none := by
  have := h.look id
  rw [look_pos_none hp] at this
  simpa using this
theorem Rl.has {S : WS} {R : RS} (h : Rl S R) {id : Int} {i : Nat} (hp : posR R.l id = some i) : ∃ t g, R.l[i]? = some t ∧ lookR R.l id = some t ∧ t.id = id ∧ lookI S.all id = some (g, t.tm) := by
  obtain ⟨t, h1, h2, h3⟩ := look_pos hp
  have := h.look id
  rw [h2] at this
  cases hl : lookI S.all id with
  | none => rw [hl] at this; simp at this
  | some y =>
    rw [hl] at this
    simp only [Option.map_some, Option.some.injEq] at this
    exact ⟨t, y.1, h1, h2, h3, by rw [← this]⟩

end Go.Proofs.Ytaehmaocibimeaa
