import Derived.Test.YtaehmaocibimeaaR1
import Derived.Test.YtaehmaocibimeaaW9
set_option linter.unusedSimpArgs false
set_option linter.unusedVariables false
namespace Go.Proofs.Ytaehmaocibimeaa
open Go.RowKit

structure StpR (w : World) (p : Nat) (v : Value) (w' : World) (v' : Value) (R' : RS) : Prop where
  isr : IsR w' p v' R'
  kept : Kept (fpR p v) w w'
  fp : ∀ k, fpR p v' k → fpR p v k ∨ w.heap.size ≤ k

theorem IsR.setE {w : World} {p g n c : Nat} {R : RS} (h : IsR w p (.slice (some ⟨g, 0, none⟩) n c) R) {i : Nat} (hi : i < R.l.length) {k : Nat} (hk : k < 7) {u : Value} {t' : RT} (ht : (R.l[i]).cells.set k u = t'.cells) :
    IsR (w.setCell ⟨g, i * 7 + k, none⟩ u) p (.slice (some ⟨g, 0, none⟩) n c) { R with l := R.l.set i t' } := by
  have hne : p ≠ g := fun e => h.ne (by simp [Value.ownBlock, e])
  refine ⟨h.blk.far hne u, ?_, h.ne, h.now0, h.now1, h.c0, h.c1, by simpa using h.small⟩
  have := h.own.setCell (i := i) (c := (R.l[i]).cells) (by simp [hi]) hk u
  rw [ht] at this
  simpa [List.map_set] using this

theorem newR_any (w0 w : World) (hk : Kept (fun _ => False) w0 w) : Calls Try.prog 15 #[] w fun e w1 => ∃ p, e = .returned (.pointer (some ⟨p, 0, none⟩)) ∧ w.heap.size ≤ p ∧ IsR w1 p (.slice none 0 0) ⟨0, [], 0⟩ ∧ Kept (fun _ => False) w w1 := by
  go_enter Try.func15, Try.ntmps15
  go_wp2
  go_ret
  refine ⟨_, rfl, Nat.le_refl _, ⟨Blk.new w 80 _, (Sg.nil _ _ _), by simp [Value.ownBlock], Int.le_refl _, by decide, Int.le_refl _, by decide, by simp⟩, Kept.alloc (Kept.refl _ w) _⟩

theorem nowR_any (p : Nat) (v : Value) (R : RS) (w : World) (h : IsR w p v R) :
    Calls Try.prog 24 #[.pointer (some ⟨p, 0, none⟩)] w fun e w' => e = .returned (.int .u64 R.now) ∧ w = w' := by
  have hb := h.blk.cell
  go_enter Try.func24, Try.ntmps24
  go_wp2
  go_ret
  exact ⟨rfl, rfl⟩

set_option maxHeartbeats 400000 in
theorem initR_has (p : Nat) (v : Value) (R : RS) (id : Int) (w : World) (h : IsR w p v R) {i : Nat} (hp : posR R.l id = some i) :
    Calls Try.prog 16 #[.pointer (some ⟨p, 0, none⟩), .int .i64 id] w fun e w' => e = .returned (.int .i64 121) ∧ w = w' := by
  go_enter Try.func16, Try.ntmps16
  go_wp2_with (go_at_call 33; refine (find_any p v R id w h).mono ?_; rintro e w1 ⟨rfl, rfl⟩; rw [hp]; simp only [posI'])
  go_ret
  exact ⟨rfl, rfl⟩

set_option maxHeartbeats 400000 in
theorem initR_ok (p : Nat) (v : Value) (R : RS) (id : Int) (w : World) (h : IsR w p v R) (hp : posR R.l id = none) (hs : R.l.length < 1000000) :
    Calls Try.prog 16 #[.pointer (some ⟨p, 0, none⟩), .int .i64 id] w fun e w' => e = .returned (.int .i64 0) ∧ ∃ v', StpR w p v w' v' { R with l := R.l ++ [⟨id, 0, 0, false, false, 0, 0⟩] } := by
  obtain ⟨i0, hI0, hI1, hI2, hI3⟩ := info_parts info82
  have hb := h.blk.cell
  have hbl := h.blk.lt
  go_enter Try.func16, Try.ntmps16
  go_wp2_with (first
    | (go_at_call 33; refine (find_any p v R id w h).mono ?_; rintro e w1 ⟨rfl, rfl⟩; rw [hp]; simp only [posI'])
    | (at_builtin; refine wpList_pushG (w := w) rfl (.tmp 13) (.tmp 16) 78 rfl Try.underlying78 hI0 hI1 hI2 hI3 rfl (by omega) v (R.l.map RT.cells) (RT.cells ⟨id, 0, 0, false, false, 0, 0⟩) rfl rfl h.own rfl (RT.cells_one _) (by simp; omega) (by omega) ?_; intro g5 cap5 w5 hS5 hk5 hg5; have hbp : Blk w5 p 80 #[.int .u64 R.now, v, .int .i64 R.count] := hk5.blk (fun e => h.ne e) h.blk; have hc5 := hbp.cell; have hf5 := hbp.frozen))
  go_ret
  have hn5 : (Value.slice (some ⟨g5, 0, none⟩) ((R.l.map RT.cells).length + 1) cap5).ownBlock ≠ some p := by
    simp only [Value.ownBlock, ne_eq, Option.some.injEq]
    rcases hg5 with e | e
    · intro e2; subst e2; exact h.ne e
    · omega
  have hkk : Kept (fpR p v) w (w5.setCell ⟨p, 1, none⟩ (.slice (some ⟨g5, 0, none⟩) ((R.l.map RT.cells).length + 1) cap5)) := (hk5.mono (fun k _ e => .inr e)).setCell (fun _ => .inl rfl) _
  have hS6 := hS5.kept (Kept.setCell (F := fun k => k = p) (Kept.refl _ w5) (p := ⟨p, 1, none⟩) (fun _ => rfl) (.slice (some ⟨g5, 0, none⟩) ((R.l.map RT.cells).length + 1) cap5)) (fun g hg e => hn5 (by rw [hg, e]))
  simp only [List.length_map] at hS6 hkk hn5 ⊢
  refine ⟨rfl, _, ⟨hbp.set_ 1 _, by simpa using hS6, hn5, h.now0, h.now1, h.c0, h.c1, by simp; omega⟩, hkk, fun k hk => ?_⟩
  rcases hk with rfl | hk
  · exact .inl (.inl rfl)
  · simp only [Value.ownBlock, Option.some.injEq] at hk
    subst hk
    rcases hg5 with e | e
    · exact .inl (.inr e)
    · exact .inr e

end Go.Proofs.Ytaehmaocibimeaa
