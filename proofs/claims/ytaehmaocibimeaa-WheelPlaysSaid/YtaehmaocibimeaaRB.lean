import Derived.Test.YtaehmaocibimeaaRA
set_option linter.unusedSimpArgs false
set_option linter.unusedVariables false
namespace Go.Proofs.Ytaehmaocibimeaa
open Go.RowKit

theorem Rl.empty : Rl ⟨0, 0, [], []⟩ ⟨0, [], 0⟩ := ⟨HV.empty, rfl, rfl, by simp, fun id => rfl, by simp, by simp⟩

/-- one timer is written anew on both sides -/
theorem Rl.upd {S S' : WS} {R : RS} (h : Rl S R) {id : Int} {i g : Nat} {t : RT} {f : RT → RT} (hp : posR R.l id = some i) (ht : R.l[i]? = some t) (hf : ∀ t, (f t).id = t.id)
    {n c : Int} (hv : HV S') (hn : S'.now = n) (hc : S'.starts = c) (ha : S'.all = updI S.all id (g, (f t).tm)) (ho : (f t).armed = true → 0 < (f t).order) (hw : (f t).when ≤ 18446744073709551615) :
    Rl S' { now := n, l := R.l.set i (f t), count := c } := by
  obtain ⟨t', g', h1, h2, h3, h4⟩ := h.has hp
  obtain rfl : t' = t := by rw [h1] at ht; exact Option.some.inj ht
  have hs := upd_set f hp ht
  refine ⟨hv, hn, hc, ?_, fun id' => ?_, fun u hu ha => ?_, fun u hu => ?_⟩
  · show ((R.l.set i (f t')).map RT.id).Nodup
    rw [hs, updR_ids hf]
    exact h.nod
  · show _ = (lookR (R.l.set i (f t')) id').map RT.tm
    rw [hs, lookR_upd hf, ha, look_upd]
    by_cases e : id = id'
    · rw [if_pos e, if_pos e, h2]; rfl
    · rw [if_neg e, if_neg e]; exact h.look id'
  · rcases List.mem_or_eq_of_mem_set hu with hu | rfl
    · exact h.ord u hu ha
    · exact ho ha
  · rcases List.mem_or_eq_of_mem_set hu with hu | rfl
    · exact h.wh u hu
    · exact hw

theorem Rl.init {S : WS} {R : RS} (h : Rl S R) {id : Int} (hp : posR R.l id = none) (g : Nat) : Rl { S with all := updI S.all id (g, Tm.new id) } { R with l := R.l ++ [⟨id, 0, 0, false, false, 0, 0⟩] } := by
  have hl := look_pos_none hp
  refine ⟨h.hv.upd rfl (.inl rfl), h.now, h.cnt, ?_, fun id' => ?_, fun u hu ha => ?_, fun u hu => ?_⟩
  · show ((R.l ++ [_]).map RT.id).Nodup
    rw [List.map_append]
    refine List.nodup_append.2 ⟨h.nod, by simp, fun a ha b hb e => ?_⟩
    simp only [List.map_cons, List.map_nil, List.mem_singleton] at hb
    subst hb
    subst e
    obtain ⟨t, h1, h2⟩ := List.mem_map.1 ha
    have := lookR_mem h.nod h1
    rw [h2, hl] at this
    cases this
  · show (lookI (updI S.all id (g, Tm.new id)) id').map (·.2) = (lookR (R.l ++ [_]) id').map RT.tm
    rw [look_upd, lookR_app]
    by_cases e : id = id'
    · subst e
      rw [if_pos rfl, hl]
      simp only [if_true]
      rfl
    · rw [if_neg e, h.look]
      cases lookR R.l id' with
      | none => simp only [if_neg e]
      | some u => rfl
  · rcases List.mem_append.1 hu with hu | hu
    · exact h.ord u hu ha
    · rw [List.mem_singleton.1 hu] at ha; cases ha
  · rcases List.mem_append.1 hu with hu | hu
    · exact h.wh u hu
    · rw [List.mem_singleton.1 hu]; show (0 : Int) ≤ _; omega

theorem Rl.cb {S : WS} {R : RS} (h : Rl S R) {id : Int} {i g : Nat} {t : RT} (hp : posR R.l id = some i) (ht : R.l[i]? = some t) (hl : lookI S.all id = some (g, t.tm)) (pr at_ : Int) :
    Rl { S with all := updI S.all id (g, { t.tm with prog := pr, at_ := at_, has := true }) } { R with l := R.l.set i { t with prog := pr, at_ := at_, set := true } } := by
  have hm : t ∈ R.l := List.mem_of_getElem? ht
  have hid : t.id = id := by obtain ⟨hi, e⟩ := posR_at hp; have := (List.getElem?_eq_some_iff.1 ht).2; rw [← e, this]
  exact h.upd (g := g) (f := fun t => { t with prog := pr, at_ := at_, set := true }) hp ht (fun _ => rfl) (S' := { S with all := updI S.all id (g, { t.tm with prog := pr, at_ := at_, has := true }) })
    (h.hv.upd hid (.inr ⟨g, t.tm, hl, rfl, rfl⟩)) h.now h.cnt rfl (fun ha => h.ord t hm ha) (h.wh t hm)

theorem Rl.cancel {S : WS} {R : RS} (h : Rl S R) {id : Int} {i g : Nat} {t : RT} (hp : posR R.l id = some i) (ht : R.l[i]? = some t) (hl : lookI S.all id = some (g, t.tm)) :
    Rl { S with all := updI S.all id (g, { t.tm with start := 0 }) } { R with l := R.l.set i { t with armed := false } } ∧ decide (0 < t.tm.start) = t.armed := by
  have hm : t ∈ R.l := List.mem_of_getElem? ht
  have hid : t.id = id := by obtain ⟨hi, e⟩ := posR_at hp; have := (List.getElem?_eq_some_iff.1 ht).2; rw [← e, this]
  refine ⟨h.upd (g := g) (f := fun t => { t with armed := false }) hp ht (fun _ => rfl) (S' := { S with all := updI S.all id (g, { t.tm with start := 0 }) })
    (h.hv.upd hid (.inl rfl)) h.now h.cnt rfl (fun ha => by cases ha) (h.wh t hm), ?_⟩
  have := h.ord t hm
  show decide (0 < if t.armed = true then t.order else 0) = t.armed
  cases ha : t.armed with
  | false => simp
  | true => simp [this ha]

theorem Rl.start {S : WS} {R : RS} (h : Rl S R) (hs : 0 ≤ S.starts) {id : Int} {i g : Nat} {t : RT} (hp : posR R.l id = some i) (ht : R.l[i]? = some t) (hset : t.set = true) (hl : lookI S.all id = some (g, t.tm)) (after : Int) :
    Rl { now := S.now, starts := S.starts + 1, all := updI S.all id (g, t.tm.go (capT (S.now + after)) (S.starts + 1)), due := fixL (S.due ++ [t.tm.go (capT (S.now + after)) (S.starts + 1)]) S.due.length }
      { R with l := R.l.set i { t with when := capT (R.now + after), order := R.count + 1, armed := true }, count := R.count + 1 } := by
  refine h.upd (g := g) (f := fun t => { t with when := capT (R.now + after), order := R.count + 1, armed := true }) hp ht (fun _ => rfl) (h.hv.start hl hs _) h.now (by show S.starts + 1 = R.count + 1; rw [h.cnt]) ?_ (fun _ => ?_) ?_
  · show updI S.all id _ = updI S.all id _
    rw [h.now, h.cnt]
    show updI S.all id (g, (⟨t.id, t.prog, t.at_, true, _, _⟩ : Tm)) = updI S.all id (g, (⟨t.id, t.prog, t.at_, t.set, _, _⟩ : Tm))
    rw [hset]
    rfl
  · show 0 < R.count + 1
    rw [← h.cnt]
    omega
  · show capT _ ≤ _
    unfold capT
    split <;> omega

theorem Rl.drop {S : WS} {R : RS} (h : Rl S R) (hn : S.all.Pairwise fun x y => x.1 ≠ y.1) {id : Int} {i : Nat} (hp : posR R.l id = some i) : Rl { S with all := delI S.all id } { R with l := R.l.take i ++ R.l.drop (i + 1) } := by
  refine ⟨h.hv.del hn id, h.now, h.cnt, nod_del h.nod i, fun id' => ?_, fun u hu ha => h.ord u ?_ ha, fun u hu => h.wh u ?_⟩
  · show (lookI (delI S.all id) id').map (·.2) = (lookR (R.l.take i ++ R.l.drop (i + 1)) id').map RT.tm
    rw [look_del hn, lookR_del h.nod hp]
    by_cases e : id = id'
    · rw [if_pos e, if_pos e]; rfl
    · rw [if_neg e, if_neg e]; exact h.look id'
  all_goals
    rcases List.mem_append.1 hu with hu | hu
    · exact List.mem_of_mem_take hu
    · exact List.mem_of_mem_drop hu
theorem Rl.drop_none {S : WS} {R : RS} (h : Rl S R) (hn : S.all.Pairwise fun x y => x.1 ≠ y.1) {id : Int} (hp : posR R.l id = none) : Rl { S with all := delI S.all id } R := by
  refine ⟨h.hv.del hn id, h.now, h.cnt, h.nod, fun id' => ?_, h.ord, h.wh⟩
  show (lookI (delI S.all id) id').map (·.2) = _
  rw [look_del hn]
  by_cases e : id = id'
  · rw [if_pos e, ← e, look_pos_none hp]; rfl
  · rw [if_neg e]; exact h.look id'

/-- the starts of armed timers differ -/
theorem Rl.ords {S : WS} {R : RS} (h : Rl S R) : R.l.Pairwise (fun x y => x.armed = true → y.armed = true → x.order ≠ y.order) := by
  have hn := h.nod
  rw [List.Nodup, List.pairwise_map] at hn
  refine hn.imp_of_mem fun {a b} ha hb hab ha1 hb1 e => hab ?_
  have key : ∀ t ∈ R.l, t.armed = true → ∃ x ∈ S.due, x.id = t.id ∧ x.start = t.order := fun t ht hta => by
    have h1 := h.look t.id
    rw [lookR_mem h.nod ht] at h1
    cases hl : lookI S.all t.id with
    | none => rw [hl] at h1; simp at h1
    | some y =>
      rw [hl] at h1
      simp only [Option.map_some, Option.some.injEq] at h1
      have hst : y.2.start = t.order := by rw [h1]; show (if t.armed = true then t.order else 0) = _; rw [if_pos hta]
      obtain ⟨x, hx, e1, e2⟩ := h.hv.full t.id y.1 y.2 hl (by rw [hst]; exact h.ord t ht hta)
      exact ⟨x, hx, e1, e2.trans hst⟩
  obtain ⟨x, hx, x1, x2⟩ := key a ha ha1
  obtain ⟨y, hy, y1, y2⟩ := key b hb hb1
  have : x = y := by
    have hnd := h.hv.l.nd
    rw [List.Nodup, List.pairwise_map] at hnd
    obtain ⟨i, hi, rfl⟩ := List.mem_iff_getElem.1 hx
    obtain ⟨j, hj, rfl⟩ := List.mem_iff_getElem.1 hy
    rcases Nat.lt_trichotomy i j with hlt | rfl | hlt
    · exact absurd (x2.trans (e.trans y2.symm)) (List.pairwise_iff_getElem.1 hnd i j hi hj hlt)
    · rfl
    · exact absurd (y2.trans (e.symm.trans x2.symm)) (List.pairwise_iff_getElem.1 hnd j i hj hi hlt)
  rw [← x1, ← y1, this]

theorem due_sorted {S : WS} {R : RS} (h : Rl S R) (to : Int) : ((dueL to R.l []).map RT.tm).Pairwise LtT := by
  have h1 := dueL_sorted to (out := []) List.Pairwise.nil (by simp) h.ords
  rw [List.pairwise_map]
  refine h1.imp_of_mem fun {a b} ha hb hab => ?_
  have a1 := (dueL_mem to).1 ha
  have b1 := (dueL_mem to).1 hb
  simp only [List.not_mem_nil, false_or] at a1 b1
  unfold LtT RT.tm
  simp only [a1.2.1, b1.2.1, if_true]
  exact hab

theorem due_mem {S : WS} {R : RS} (h : Rl S R) (to : Int) (t : Tm) : t ∈ (dueL to R.l []).map RT.tm ↔ ∃ id g, lookI S.all id = some (g, t) ∧ armedTo to t = true := by
  constructor
  · intro ht
    obtain ⟨u, hu, rfl⟩ := List.mem_map.1 ht
    have u1 := (dueL_mem to).1 hu
    simp only [List.not_mem_nil, false_or] at u1
    have h1 := h.look u.id
    rw [lookR_mem h.nod u1.1] at h1
    cases hl : lookI S.all u.id with
    | none => rw [hl] at h1; simp at h1
    | some y =>
      rw [hl] at h1
      simp only [Option.map_some, Option.some.injEq] at h1
      refine ⟨u.id, y.1, by rw [hl, ← h1], ?_⟩
      have := h.ord u u1.1 u1.2.1
      unfold armedTo RT.tm
      simp [u1.2.1, u1.2.2, this]
  · rintro ⟨id, g, hl, ha⟩
    have h1 := h.look id
    rw [hl] at h1
    cases hr : lookR R.l id with
    | none => rw [hr] at h1; simp at h1
    | some u =>
      rw [hr] at h1
      simp only [Option.map_some, Option.some.injEq] at h1
      subst h1
      refine List.mem_map.2 ⟨u, (dueL_mem to).2 (.inr ⟨(lookR_id hr).2, ?_⟩), rfl⟩
      unfold armedTo RT.tm at ha
      simp only [Bool.and_eq_true, decide_eq_true_eq] at ha
      cases hu : u.armed with
      | false => rw [hu] at ha; simp at ha
      | true => exact ⟨rfl, ha.2⟩

theorem Rl.tick {S S' : WS} {R : RS} (h : Rl S R) {to : Int} {ys : List Tm} (h1 : ys.Pairwise LtT) (h2 : ∀ t, t ∈ ys ↔ ∃ id g, lookI S.all id = some (g, t) ∧ armedTo to t = true)
    (h3 : ∀ id, lookI S'.all id = (lookI S.all id).map (offTo to)) (hv : HV S') (hn : S'.now = to) (hs : S'.starts = S.starts) :
    ys.map Tm.fd = (dueL to R.l []).map RT.fd ∧ Rl S' { R with now := to, l := offs R.l (dueL to R.l []) } := by
  have e : ys = (dueL to R.l []).map RT.tm := sorted_ext h1 (due_sorted h to) (fun t => (h2 t).trans (due_mem h to t).symm)
  refine ⟨by rw [e, List.map_map]; rfl, hv, hn, hs.trans h.cnt, ?_, fun id => ?_, fun u hu ha => ?_, fun u hu => ?_⟩
  · show ((offs R.l _).map RT.id).Nodup
    rw [offs_ids]
    exact h.nod
  · show _ = (lookR (offs R.l (dueL to R.l [])) id).map RT.tm
    rw [h3, lookR_offs]
    have hl := h.look id
    cases hr : lookR R.l id with
    | none =>
      rw [hr] at hl
      cases hi : lookI S.all id with
      | none => rfl
      | some y => rw [hi] at hl; simp at hl
    | some u =>
      rw [hr] at hl
      cases hi : lookI S.all id with
      | none => rw [hi] at hl; simp at hl
      | some y =>
        rw [hi] at hl
        simp only [Option.map_some, Option.some.injEq] at hl ⊢
        obtain ⟨hid, hmem⟩ := lookR_id hr
        have hany : ((dueL to R.l []).any fun x => x.id == id) = armedTo to y.2 := by
          have ho := h.ord u hmem
          have harm : armedTo to y.2 = (u.armed && decide (u.when ≤ to)) := by
            rw [hl]
            unfold armedTo RT.tm
            cases hu : u.armed with
            | false => simp
            | true => simp [ho hu]
          rw [harm, Bool.eq_iff_iff]
          simp only [List.any_eq_true, Bool.and_eq_true, decide_eq_true_eq, beq_iff_eq]
          constructor
          · rintro ⟨x, hx, hxi⟩
            have x1 := (dueL_mem to).1 hx
            simp only [List.not_mem_nil, false_or] at x1
            have : lookR R.l x.id = some x := lookR_mem h.nod x1.1
            rw [hxi, hr] at this
            cases this
            exact x1.2
          · intro hu
            exact ⟨u, (dueL_mem to).2 (.inr ⟨hmem, hu⟩), hid⟩
        rw [hany]
        unfold offTo offB
        cases ha : armedTo to y.2 with
        | false => simp only [Bool.false_eq_true, if_false]; exact hl
        | true =>
          simp only [if_true]
          rw [hl]
          rfl
  · obtain ⟨t, t1, t2, t3, t4, t5⟩ := offs_all _ _ hu
    rw [t3]
    exact h.ord t t1 (t4 ha)
  · obtain ⟨t, t1, t2, t3, t4, t5⟩ := offs_all _ _ hu
    rw [t2]
    exact h.wh t t1

theorem Rl.armed {S : WS} {R : RS} (h : Rl S R) {o : List Int} (ha : Arms S S.due o) : o = (dueL 18446744073709551615 R.l []).map RT.id := by
  obtain ⟨ys, h1, h2, h3⟩ := ha.law h.hv
  have e : ys = (dueL 18446744073709551615 R.l []).map RT.tm := sorted_ext h2 (due_sorted h _) (fun t => by
    rw [h3, due_mem h]
    constructor
    · rintro ⟨id, g, hl, hp⟩
      refine ⟨id, g, hl, ?_⟩
      have h1 := h.look id
      rw [hl] at h1
      cases hr : lookR R.l id with
      | none => rw [hr] at h1; simp at h1
      | some u =>
        rw [hr] at h1
        simp only [Option.map_some, Option.some.injEq] at h1
        have hw := h.wh u (lookR_id hr).2
        have e : t.when = u.when := by rw [h1]; rfl
        unfold armedTo
        simp only [Bool.and_eq_true, decide_eq_true_eq]
        omega
    · rintro ⟨id, g, hl, hp⟩
      refine ⟨id, g, hl, ?_⟩
      unfold armedTo at hp
      simp only [Bool.and_eq_true, decide_eq_true_eq] at hp
      exact hp.1)
  rw [h1, e, List.map_map]
  rfl

theorem Rl.tickIn {S : WS} {R : RS} (h : Rl S R) (to : Int) : ∀ x ∈ dueL to R.l [], posR R.l x.id ≠ none := by
  intro x hx e
  have x1 := (dueL_mem to).1 hx
  simp only [List.not_mem_nil, false_or] at x1
  have := lookR_mem h.nod x1.1
  rw [look_pos_none e] at this
  cases this

end Go.Proofs.Ytaehmaocibimeaa
