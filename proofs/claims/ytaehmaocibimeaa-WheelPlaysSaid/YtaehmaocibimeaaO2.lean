import Derived.Test.YtaehmaocibimeaaO1
set_option linter.unusedSimpArgs false
set_option linter.unusedVariables false
namespace Go.Proofs.Ytaehmaocibimeaa
open Go.RowKit

def cntO (od : Nat → Int) (k : Nat) : Nat := ((List.range k).filter fun j => decide (0 < od j)).length
theorem cntO_zero (od : Nat → Int) : cntO od 0 = 0 := rfl
theorem cntO_succ (od : Nat → Int) (k : Nat) : cntO od (k + 1) = cntO od k + if 0 < od k then 1 else 0 := by
  unfold cntO
  rw [List.range_succ, List.filter_append, List.length_append]
  by_cases h : 0 < od k
  · simp [h]
  · simp [h]
theorem cntO_le (od : Nat → Int) (k : Nat) : cntO od k ≤ k := by
  have := List.length_filter_le (fun j => decide (0 < od j)) (List.range k)
  simpa [cntO] using this

theorem Inv.id {i : Nat} {S : WS} {tm : Nat → Tm} {wh od : Nat → Int} (h : Inv i S tm wh od) {k : Nat} (hk : k < 8) : (tm k).id = k := by
  obtain ⟨g, hl⟩ := h.look k hk
  exact (h.hv.l.ids _ _ _ hl).1

structure Fin (ys : List Tm) (tm : Nat → Tm) (wh od : Nat → Int) : Prop where
  len : ys.length = cntO od 8
  at_ : ∀ q (hq : q < ys.length), ∃ k : Nat, k < 8 ∧ ys[q].fd = ⟨k, k, 2 * k, wh k⟩ ∧ 0 < od k
  ord : ∀ q (hq : q + 1 < ys.length) (j k : Nat), j < 8 → k < 8 → (ys[q]'(by omega)).id = j → ys[q + 1].id = k → wh j < wh k ∨ (wh j = wh k ∧ od j < od k)

theorem Inv.fin {i : Nat} {S : WS} {tm : Nat → Tm} {wh od : Nat → Int} (h : Inv i S tm wh od) {ys : List Tm} (h1 : ys.Pairwise LtT) (h2 : ∀ t, t ∈ ys ↔ ∃ id g, lookI S.all id = some (g, t) ∧ armedTo 10 t = true) : Fin ys tm wh od := by
  have hmem : ∀ t, t ∈ ys ↔ ∃ k, k < 8 ∧ 0 < od k ∧ t = tm k := by
    intro t
    rw [h2]
    constructor
    · rintro ⟨id, g, hl, ha⟩
      obtain ⟨k, hk, rfl⟩ := h.only id g t hl
      obtain ⟨g', hl'⟩ := h.look k hk
      rw [hl] at hl'
      simp only [Option.some.injEq, Prod.mk.injEq] at hl'
      refine ⟨k, hk, ?_, hl'.2⟩
      have := (h.tms k hk).2.2.2
      rw [hl'.2] at ha
      unfold armedTo at ha
      simp only [Bool.and_eq_true, decide_eq_true_eq] at ha
      omega
    · rintro ⟨k, hk, ho, rfl⟩
      obtain ⟨g', hl'⟩ := h.look k hk
      refine ⟨k, g', hl', ?_⟩
      have := (h.tms k hk).2.2.2
      have := h.rng k hk
      unfold armedTo
      simp only [Bool.and_eq_true, decide_eq_true_eq]
      omega
  have hnd : ys.Nodup := h1.imp (fun {a b} hab e => by subst e; unfold LtT at hab; omega)
  have hinj : ∀ j k, j < 8 → k < 8 → tm j = tm k → j = k := fun j k hj hk e => by
    have := h.id hj
    have := h.id hk
    rw [e] at *
    omega
  refine ⟨?_, fun q hq => ?_, fun q hq j k hj hk ej ek => ?_⟩
  · have hp : ys.Perm (((List.range 8).filter fun j => decide (0 < od j)).map tm) := by
      refine (List.perm_ext_iff_of_nodup hnd ?_).2 fun t => ?_
      · refine List.pairwise_map.2 ?_
        refine (List.Pairwise.filter _ List.nodup_range).imp_of_mem ?_
        intro a b ha hb hab e
        simp only [List.mem_filter, List.mem_range] at ha hb
        exact hab (hinj a b ha.1 hb.1 e)
      · rw [hmem, List.mem_map]
        constructor
        · rintro ⟨k, hk, ho, rfl⟩
          exact ⟨k, by simp [hk, ho], rfl⟩
        · rintro ⟨k, hk, rfl⟩
          simp only [List.mem_filter, List.mem_range, decide_eq_true_eq] at hk
          exact ⟨k, hk.1, hk.2, rfl⟩
    rw [hp.length_eq, List.length_map]
    rfl
  · obtain ⟨k, hk, ho, e⟩ := (hmem _).1 (List.getElem_mem hq)
    refine ⟨k, hk, ?_, ho⟩
    obtain ⟨a1, a2, a3, a4⟩ := h.tms k hk
    have a5 := h.id hk
    rw [e]
    unfold Tm.fd
    rw [a1, a2, a5]
    have : (tm k).when = wh k := by omega
    rw [this]
  · have hq' : q < ys.length := by omega
    obtain ⟨j', hj', ho', e'⟩ := (hmem _).1 (List.getElem_mem hq')
    obtain ⟨k', hk', hk2, e2⟩ := (hmem _).1 (List.getElem_mem hq)
    rw [e', h.id hj'] at ej
    rw [e2, h.id hk'] at ek
    obtain rfl : j' = j := by omega
    obtain rfl : k' = k := by omega
    have hlt : LtT ys[q] ys[q + 1] := List.pairwise_iff_getElem.1 h1 q (q + 1) hq' hq (by omega)
    rw [e', e2] at hlt
    have b1 := (h.tms j' hj').2.2.2
    have b2 := (h.tms k' hk').2.2.2
    have b3 := h.mono j' k' hj' hk'
    unfold LtT at hlt
    omega

theorem off_none {S S' : WS} (h : ∀ id, lookI S'.all id = (lookI S.all id).map (offTo 10)) (hb : ∀ id g t, lookI S.all id = some (g, t) → 0 < t.start → t.when ≤ 10) (hi : ∀ id g t, lookI S.all id = some (g, t) → 0 ≤ t.start) :
    ∀ id g t, lookI S'.all id = some (g, t) → t.start = 0 := by
  intro id g t hl
  rw [h] at hl
  cases hl' : lookI S.all id with
  | none => rw [hl'] at hl; cases hl
  | some y =>
    obtain ⟨g0, t0⟩ := y
    rw [hl'] at hl
    simp only [Option.map_some, Option.some.injEq] at hl
    have h1 := hb id g0 t0 hl'
    have h2 := hi id g0 t0 hl'
    unfold offTo at hl
    simp only [Prod.mk.injEq] at hl
    rw [← hl.2]
    split
    · rfl
    · rename_i ha
      unfold armedTo at ha
      simp only [Bool.and_eq_true, decide_eq_true_eq, not_and] at ha
      omega

theorem arms_none {S : WS} {o : List Int} (h : Arms S S.due o) (hv : HV S) (h0 : ∀ id g t, lookI S.all id = some (g, t) → t.start = 0) : o = [] := by
  obtain ⟨ys, h1, h2, h3⟩ := h.law hv
  cases ys with
  | nil => exact h1
  | cons y r =>
    obtain ⟨id, g, hl, hp⟩ := (h3 y).1 (List.mem_cons_self ..)
    have := h0 id g y hl
    omega

/-- the wheel as it is made: eight timers -/
structure Inv0 (k : Nat) (S : WS) : Prop where
  hv : HV S
  now : S.now = 0
  starts : S.starts = 0
  look : ∀ j : Nat, j < k → ∃ g, lookI S.all (j : Int) = some (g, ⟨j, j, 2 * j, true, 0, 0⟩)
  only : ∀ id g t, lookI S.all id = some (g, t) → ∃ j : Nat, j < k ∧ id = (j : Int)

theorem Inv0.none {k : Nat} {S : WS} (h : Inv0 k S) : lookI S.all (k : Int) = none := by
  cases hl : lookI S.all (k : Int) with
  | none => rfl
  | some y =>
    obtain ⟨g, t⟩ := y
    obtain ⟨j, hj, e⟩ := h.only _ g t hl
    omega

theorem Inv0.made {k : Nat} {S : WS} (h : Inv0 k S) (g : Nat) : lookI (updI S.all (k : Int) (g, Tm.new k)) (k : Int) = some (g, Tm.new k) := by
  rw [look_upd, if_pos rfl]

theorem Inv0.succ {k : Nat} {S : WS} (h : Inv0 k S) (g : Nat) :
    Inv0 (k + 1) { S with all := updI (updI S.all (k : Int) (g, Tm.new k)) (k : Int) (g, { Tm.new k with prog := k, at_ := 2 * k, has := true }) } := by
  have hn := h.none
  have hlu : ∀ (l : List (Int × (Nat × Tm))) (y : Nat × Tm) (id' : Int), lookI (updI l (k : Int) y) id' = if (k : Int) = id' then some y else lookI l id' := fun l y id' => look_upd
  refine ⟨(h.hv.upd (g := g) (t' := Tm.new k) rfl (.inl rfl)).upd (g := g) (t' := { Tm.new k with prog := k, at_ := 2 * k, has := true }) rfl (.inl rfl), h.now, h.starts, fun j hj => ?_, fun id g2 t hl => ?_⟩
  · show ∃ g2, lookI (updI (updI S.all (k : Int) (g, Tm.new k)) (k : Int) (g, _)) (j : Int) = _
    rw [hlu, hlu]
    by_cases e : (k : Int) = j
    · rw [if_pos e]
      have : k = j := by omega
      subst this
      exact ⟨g, rfl⟩
    · rw [if_neg e, if_neg e]
      exact h.look j (by omega)
  · have hl : lookI (updI (updI S.all (k : Int) (g, Tm.new k)) (k : Int) (g, { Tm.new k with prog := k, at_ := 2 * k, has := true })) id = some (g2, t) := hl
    rw [hlu, hlu] at hl
    split at hl
    · rename_i e; exact ⟨k, by omega, e.symm⟩
    · obtain ⟨j, hj, e⟩ := h.only id g2 t hl
      exact ⟨j, by omega, e⟩

theorem Inv0.inv {S : WS} (h : Inv0 8 S) : Inv 0 S (fun k => ⟨k, k, 2 * k, true, 0, 0⟩) (fun _ => 0) (fun _ => 0) :=
  ⟨h.hv, h.now, by rw [h.starts]; exact Int.le_refl _, fun k hk => h.look k hk, fun id g t hl => h.only id g t hl, fun k hk => ⟨rfl, rfl, rfl, .inr ⟨rfl, rfl⟩⟩, fun k hk => ⟨Int.le_refl _, by omega, Int.le_refl _, Int.le_refl _⟩,
    fun k hk => by rw [h.starts]; exact Int.le_refl _, fun j k hj hk h1 h2 => by simp only at h1; omega⟩

/-- the wheel, in blocks of its own -/
structure One (w0 w : World) (p m : Nat) (v : Value) (S : WS) : Prop where
  isw : IsW w p m v S
  fp : ∀ k, fpW p m v S k → w0.heap.size ≤ k
  kept : Kept (fun _ => False) w0 w

theorem One.step {w0 w w' : World} {p m : Nat} {v v' : Value} {S S' : WS} (h : One w0 w p m v S) (hs : Stp w p m v S w' v' S') : One w0 w' p m v' S' :=
  ⟨hs.isw, fun k hk => by
    rcases hs.fp k hk with e | e
    · exact h.fp k e
    · have := h.kept.size; omega, h.kept.trans hs.kept (fun k hk e => by have := h.fp k e; omega)⟩

/-- another new block is written -/
theorem One.other {w0 w w' : World} {p m : Nat} {v : Value} {S : WS} {F : Nat → Prop} (h : One w0 w p m v S) (hk : Kept F w w') (hF : ∀ k, k < w.heap.size → F k → ¬ fpW p m v S k ∧ w0.heap.size ≤ k) : One w0 w' p m v S :=
  ⟨h.isw.kept hk (fun k h1 h2 => (hF k (h.isw.fp_lt h1) h2).1 h1), h.fp, h.kept.trans hk (fun k hk e => by
    have hs := h.kept.size
    have := (hF k (by omega) e).2
    omega)⟩

theorem new_one (w0 w : World) (hk : Kept (fun _ => False) w0 w) : Calls Try.prog 7 #[] w fun e w1 => ∃ p m, e = .returned (.pointer (some ⟨p, 0, none⟩)) ∧ One w0 w1 p m (.slice none 0 0) ⟨0, 0, [], []⟩ := by
  have hs := hk.size
  refine (new_any w).mono fun e w1 ⟨h1, h2, h3, h4⟩ => ⟨_, _, h1, h2, fun k hk => ?_, hk.trans h3 (fun _ _ h => h)⟩
  rcases hk with h | h | h | ⟨x, hx, h⟩
  · omega
  · omega
  · simp [Value.ownBlock] at h
  · cases hx

end Go.Proofs.Ytaehmaocibimeaa
