import Derived.Test.YtaehmaocibimeaaW8
import Derived.Test.YtaehmaocibimeaaL1
set_option linter.unusedSimpArgs false
set_option linter.unusedVariables false
namespace Go.Proofs.Ytaehmaocibimeaa
open Go.RowKit

/-- one call of a wheel: what it leaves -/
structure Stp (w : World) (p m : Nat) (v : Value) (S : WS) (w' : World) (v' : Value) (S' : WS) : Prop where
  isw : IsW w' p m v' S'
  kept : Kept (fpW p m v S) w w'
  fp : ∀ k, fpW p m v' S' k → fpW p m v S k ∨ w.heap.size ≤ k

theorem fp_upd {p m : Nat} {v : Value} {S : WS} {id : Int} {g : Nat} {t t' : Tm} (hl : lookI S.all id = some (g, t)) {k : Nat} (h : fpW p m v { S with all := updI S.all id (g, t') } k) : fpW p m v S k :=
  fp_sub (S := S) rfl (upd_ids hl) h

theorem stp_init (p m : Nat) (v : Value) (S : WS) (id : Int) (w : World) (h : IsW w p m v S) (hl : lookI S.all id = none) :
    Calls Try.prog 8 #[.pointer (some ⟨p, 0, none⟩), .int .i64 id] w fun e w' => e = .returned (.int .i64 0) ∧ ∃ g, Stp w p m v S w' v { S with all := updI S.all id (g, Tm.new id) } :=
  (init_ok p m v S id w h hl).mono fun e w' ⟨h1, h2, h3, h4⟩ => ⟨h1, w.heap.size, by rw [upd_new hl]; exact h2, h3.mono (fun k _ e => .inr (.inl e)), fun k hk => by
    rw [upd_new hl] at hk
    exact (fp_init hk).imp (fun h => h) (fun h => by omega)⟩

theorem stp_cb (p m : Nat) (v : Value) (S : WS) (id pr at_ : Int) (w : World) (h : IsW w p m v S) {g : Nat} {t : Tm} (hl : lookI S.all id = some (g, t)) :
    Calls Try.prog 9 #[.pointer (some ⟨p, 0, none⟩), .int .i64 id, .int .i64 pr, .int .i64 at_] w fun e w' => e = .returned (.int .i64 0) ∧ Stp w p m v S w' v { S with all := updI S.all id (g, { t with prog := pr, at_ := at_, has := true }) } :=
  (cb_ok p m v S id pr at_ w h hl).mono fun e w' ⟨h1, h2, h3⟩ => ⟨h1, h2, h3.mono (fun k _ e => .inr (.inr (.inr ⟨_, look_mem hl, e⟩))), fun k hk => .inl (fp_upd hl hk)⟩

theorem stp_start (p m : Nat) (v : Value) (S : WS) (id after : Int) (w : World) (h : IsW w p m v S) {g : Nat} {t : Tm} (hl : lookI S.all id = some (g, t)) (ht : t.has = true) (ha : 0 ≤ after) (ha2 : after ≤ 18446744073709551615 - S.now) (hs : S.starts < 1000000) :
    Calls Try.prog 10 #[.pointer (some ⟨p, 0, none⟩), .int .i64 id, .int .u64 after] w fun e w' => e = .returned (.int .i64 0) ∧
      ∃ v', Stp w p m v S w' v' { now := S.now, starts := S.starts + 1, all := updI S.all id (g, t.go (S.now + after) (S.starts + 1)), due := fixL (S.due ++ [t.go (S.now + after) (S.starts + 1)]) S.due.length } :=
  (start_ok p m v S id after w h hl ht ha ha2 hs).mono fun e w' ⟨h1, v', h2, h3, h4⟩ => ⟨h1, v', h2, h4.mono (fun k _ e => by
    rcases e with e | e | e
    · exact .inl e
    · exact .inr (.inr (.inr ⟨_, look_mem hl, e⟩))
    · exact .inr (.inr (.inl e))), fun k hk => fp_v (S := S) h3 (upd_ids hl) hk⟩

theorem stp_cancel (p m : Nat) (v : Value) (S : WS) (id : Int) (w : World) (h : IsW w p m v S) {g : Nat} {t : Tm} (hl : lookI S.all id = some (g, t)) :
    Calls Try.prog 13 #[.pointer (some ⟨p, 0, none⟩), .int .i64 id] w fun e w' => e = .returned (.tuple #[.bool (decide (0 < t.start)), .int .i64 0]) ∧ Stp w p m v S w' v { S with all := updI S.all id (g, { t with start := 0 }) } :=
  (cancel_ok p m v S id w h hl).mono fun e w' ⟨h1, h2, h3⟩ => ⟨h1, h2, h3.mono (fun k _ e => .inr (.inr (.inr ⟨_, look_mem hl, e⟩))), fun k hk => .inl (fp_upd hl hk)⟩

theorem stp_drop (p m : Nat) (v : Value) (S : WS) (id : Int) (w : World) (h : IsW w p m v S) :
    Calls Try.prog 20 #[.pointer (some ⟨p, 0, none⟩), .int .i64 id] w fun e w' => e = .returned (.tuple #[]) ∧ Stp w p m v S w' v { S with all := delI S.all id } :=
  (drop_any p m v S id w h).mono fun e w' ⟨h1, h2, h3⟩ => ⟨h1, h2, h3.mono (fun k _ e => .inr (.inl e)), fun k hk => .inl (by
    rcases hk with h | h | h | ⟨x, hx, rfl⟩
    · exact .inl h
    · exact .inr (.inl h)
    · exact .inr (.inr (.inl h))
    · exact .inr (.inr (.inr ⟨x, mem_del hx, rfl⟩)))⟩

theorem stp_tick (p m : Nat) (v : Value) (S : WS) (to : Int) (w : World) (h : IsW w p m v S) (hv : HV S) (ht : S.now ≤ to) (ht2 : to < 18446744073709551616) :
    Calls Try.prog 11 #[.pointer (some ⟨p, 0, none⟩), .int .u64 to] w fun e w' => ∃ ov v' S' ys, e = .returned (.tuple #[ov, .int .i64 0]) ∧ Sl w' 37 4 ov (((ys : List Tm).map Tm.fd).map Fd.cells) ∧ (∀ g, ov.ownBlock = some g → w.heap.size ≤ g ∧ ¬ fpW p m v' S' g) ∧ Stp w p m v S w' v' S' ∧
      ys.Pairwise LtT ∧ (∀ t, t ∈ ys ↔ ∃ id g, lookI S.all id = some (g, t) ∧ armedTo to t = true) ∧ (∀ id, lookI S'.all id = (lookI S.all id).map (offTo to)) ∧ HV S' ∧ S'.now = to ∧ S'.starts = S.starts ∧ ys.length ≤ S.due.length :=
  (tick_ok p m v S to w h ht ht2).mono fun e w' ⟨ov, outs, v', S', h1, h2, h3, h4, h5, h6, h7, h8⟩ => by
    obtain ⟨ys, i1, i2, i3, i4, i5, i6, i7⟩ := h7.law (hv.withNow to)
    have hlen := h7.len
    subst i1
    refine ⟨ov, v', S', ys, h1, h2, fun g hg => ⟨h3 g hg, fun e => ?_⟩, ⟨h4, h8, fun k hk => .inl (fp_sub h5 h6 hk)⟩, i2, i3, i4, i5, i6, i7, ?_⟩
    · have := h.fp_lt (fp_sub h5 h6 e)
      have := h3 g hg
      omega
    · have : ({ S with now := to } : WS).due.length = S.due.length := rfl
      simp only [List.length_map] at hlen
      omega

/-! ### an array of eight numbers -/
def Arr (w : World) (g : Nat) (f : Nat → Int) : Prop := Blk w g 40 ((List.range 8).map fun k => Value.int .i64 (f k)).toArray
theorem Arr.cell {w : World} {g : Nat} {f : Nat → Int} (h : Arr w g f) {k : Nat} (hk : k < 8) : w.cell? ⟨g, k, none⟩ = some (.int .i64 (f k)) := by
  have := Blk.cell h k
  rw [this]
  simp [hk]
theorem Arr.fro {w : World} {g : Nat} {f : Nat → Int} (h : Arr w g f) (k : Nat) : w.frozen? ⟨g, k, none⟩ = false := Blk.frozen h k
theorem Arr.set {w : World} {g : Nat} {f : Nat → Int} (h : Arr w g f) {k : Nat} (hk : k < 8) (u : Int) : Arr (w.setCell ⟨g, k, none⟩ (.int .i64 u)) g (fun j => if j = k then u else f j) := by
  have := Blk.set_ h k (.int .i64 u)
  unfold Arr
  have e : (((List.range 8).map fun k => Value.int .i64 (f k)).toArray.setIfInBounds k (.int .i64 u)) = ((List.range 8).map fun j => Value.int .i64 (if j = k then u else f j)).toArray := by
    simp only [List.setIfInBounds_toArray, Array.mk.injEq]
    apply List.ext_getElem?
    intro j
    rw [List.getElem?_set]
    by_cases hj : j < 8
    · by_cases e : k = j
      · subst e; simp [hj]
      · simp [hj, e, Ne.symm e]
    · simp [hj]; omega
  rw [← e]
  exact this

/-! ### the plain state of the law WheelOrder -/
structure Inv (i : Nat) (S : WS) (tm : Nat → Tm) (wh od : Nat → Int) : Prop where
  hv : HV S
  now : S.now = 0
  starts : S.starts ≤ i
  look : ∀ k : Nat, k < 8 → ∃ g, lookI S.all (k : Int) = some (g, tm k)
  only : ∀ id g t, lookI S.all id = some (g, t) → ∃ k, k < 8 ∧ id = ((k : Nat) : Int)
  tms : ∀ k, k < 8 → (tm k).prog = k ∧ (tm k).at_ = 2 * k ∧ (tm k).has = true ∧ ((0 < (tm k).start ∧ 0 < od k ∧ (tm k).when = wh k) ∨ ((tm k).start = 0 ∧ od k = 0))
  rng : ∀ k, k < 8 → 0 ≤ wh k ∧ wh k ≤ 5 ∧ 0 ≤ od k ∧ od k ≤ i
  top : ∀ k, k < 8 → (tm k).start ≤ S.starts
  mono : ∀ j k, j < 8 → k < 8 → 0 < (tm j).start → 0 < (tm k).start → ((tm j).start < (tm k).start ↔ od j < od k)

theorem Inv.cancel {i : Nat} {S : WS} {tm : Nat → Tm} {wh od : Nat → Int} (h : Inv i S tm wh od) {k : Nat} (hk : k < 8) {g : Nat} (hl : lookI S.all (k : Int) = some (g, tm k)) :
    Inv (i + 1) { S with all := updI S.all (k : Int) (g, { tm k with start := 0 }) } (fun j => if j = k then { tm k with start := 0 } else tm j) wh (fun j => if j = k then 0 else od j) := by
  have hlu : ∀ id', lookI (updI S.all (k : Int) (g, ({ tm k with start := 0 } : Tm))) id' = if (k : Int) = id' then some (g, { tm k with start := 0 }) else lookI S.all id' := fun id' => look_upd
  have hst := h.starts
  refine ⟨h.hv.upd (h.hv.l.ids _ _ _ hl).1 (.inl rfl), h.now, by show S.starts ≤ _; omega, fun j hj => ?_, fun id g2 t hl2 => ?_, fun j hj => ?_, fun j hj => ?_, fun j hj => ?_, fun a b ha hb h1 h2 => ?_⟩
  · show ∃ g2, lookI (updI S.all (k : Int) (g, ({ tm k with start := 0 } : Tm))) (j : Int) = _
    rw [hlu]
    by_cases e : j = k
    · subst e; exact ⟨g, by simp⟩
    · rw [if_neg (by omega)]; simp only [e, if_false]; exact h.look j hj
  · have hl2 : lookI (updI S.all (k : Int) (g, ({ tm k with start := 0 } : Tm))) id = some (g2, t) := hl2
    rw [hlu] at hl2
    split at hl2
    · rename_i e; exact ⟨k, hk, e.symm⟩
    · exact h.only id g2 t hl2
  · by_cases e : j = k
    · subst e
      have := h.tms j hj
      simp only [if_true]
      exact ⟨this.1, this.2.1, this.2.2.1, .inr ⟨trivial, trivial⟩⟩
    · simp only [e, if_false]; exact h.tms j hj
  · have := h.rng j hj
    refine ⟨this.1, this.2.1, ?_, ?_⟩
    · show 0 ≤ if j = k then 0 else od j
      split <;> omega
    · show (if j = k then 0 else od j) ≤ _
      split <;> omega
  · show (if j = k then ({ tm k with start := 0 } : Tm) else tm j).start ≤ S.starts
    by_cases e : j = k
    · rw [if_pos e]
      have h1 := h.top k hk
      have h2 := (h.hv.l.ids _ _ _ hl).2
      show (0 : Int) ≤ S.starts
      omega
    · rw [if_neg e]; exact h.top j hj
  · by_cases e : a = k
    · simp only [e, if_true] at h1; omega
    · by_cases e2 : b = k
      · simp only [e2, if_true] at h2; omega
      · simp only [e, e2, if_false] at h1 h2 ⊢
        exact h.mono a b ha hb h1 h2

theorem Inv.start {i : Nat} {S : WS} {tm : Nat → Tm} {wh od : Nat → Int} (h : Inv i S tm wh od) (hs0 : 0 ≤ S.starts) {k : Nat} (hk : k < 8) {g : Nat} (hl : lookI S.all (k : Int) = some (g, tm k)) {a : Int} (ha : 0 ≤ a) (ha5 : a ≤ 5) :
    Inv (i + 1) { now := S.now, starts := S.starts + 1, all := updI S.all (k : Int) (g, (tm k).go (S.now + a) (S.starts + 1)), due := fixL (S.due ++ [(tm k).go (S.now + a) (S.starts + 1)]) S.due.length }
      (fun j => if j = k then (tm k).go (S.now + a) (S.starts + 1) else tm j) (fun j => if j = k then a else wh j) (fun j => if j = k then ((i + 1 : Nat) : Int) else od j) := by
  have hlu : ∀ id', lookI (updI S.all (k : Int) (g, (tm k).go (S.now + a) (S.starts + 1))) id' = if (k : Int) = id' then some (g, (tm k).go (S.now + a) (S.starts + 1)) else lookI S.all id' := fun id' => look_upd
  have hst := h.starts
  have hnow := h.now
  refine ⟨h.hv.start hl hs0 _, h.now, by show S.starts + 1 ≤ _; omega, fun j hj => ?_, fun id g2 t hl2 => ?_, fun j hj => ?_, fun j hj => ?_, fun j hj => ?_, fun a' b ha' hb h1 h2 => ?_⟩
  · show ∃ g2, lookI (updI S.all (k : Int) (g, (tm k).go (S.now + a) (S.starts + 1))) (j : Int) = _
    rw [hlu]
    by_cases e : j = k
    · subst e; exact ⟨g, by simp⟩
    · rw [if_neg (by omega)]; simp only [e, if_false]; exact h.look j hj
  · have hl2 : lookI (updI S.all (k : Int) (g, (tm k).go (S.now + a) (S.starts + 1))) id = some (g2, t) := hl2
    rw [hlu] at hl2
    split at hl2
    · rename_i e; exact ⟨k, hk, e.symm⟩
    · exact h.only id g2 t hl2
  · by_cases e : j = k
    · subst e
      have := h.tms j hj
      simp only [if_true, Tm.go]
      exact ⟨this.1, this.2.1, trivial, .inl ⟨by omega, by omega, by omega⟩⟩
    · simp only [e, if_false]; exact h.tms j hj
  · have := h.rng j hj
    by_cases e : j = k
    · simp only [e, if_true]; omega
    · simp only [e, if_false]; omega
  · have := h.top j hj
    by_cases e : j = k
    · simp only [e, if_true, Tm.go]; omega
    · simp only [e, if_false]; omega
  · have hta := h.top a' ha'
    have htb := h.top b hb
    have hra := h.rng a' ha'
    have hrb := h.rng b hb
    by_cases e : a' = k
    · by_cases e2 : b = k
      · simp only [e, e2, if_true]; omega
      · simp only [e, e2, if_true, if_false, Tm.go] at h1 h2 ⊢
        omega
    · by_cases e2 : b = k
      · simp only [e, e2, if_true, if_false, Tm.go] at h1 h2 ⊢
        omega
      · simp only [e, e2, if_false] at h1 h2 ⊢
        exact h.mono a' b ha' hb h1 h2

end Go.Proofs.Ytaehmaocibimeaa
