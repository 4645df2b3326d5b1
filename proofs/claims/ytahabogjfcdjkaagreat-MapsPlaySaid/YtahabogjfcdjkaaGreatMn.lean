import Derived.Test.YtahabogjfcdjkaaGreatMu
set_option linter.unusedSimpArgs false
set_option linter.unusedVariables false
namespace Go.Proofs.YtahabogjfcdjkaaGreat
open Go.RowKit

/-- a map is made over a memory -/
theorem Mp.made {w w' : World} {mp q m : Nat} {v : Value} {L : List Rg} (h : IsMem w mp v L) (d : Df) (hk : Kept (fun _ => False) w w') (hq : w.heap.size ≤ q) (hm : w.heap.size ≤ m)
    (hb : Blk w' q 61 (MS.cells ⟨d, [], []⟩ ⟨q, mp, m, .slice none 0 0, v⟩)) (hmm : SMap w' m []) : Mp w' ⟨q, mp, m, .slice none 0 0, v⟩ ⟨d, [], []⟩ L :=
  ⟨hb, hmm, Sl.nil _ _ _, h.quiet hk, fun e => Nat.not_lt.2 hq (h.lt e), fun e => Nat.not_lt.2 hm (h.lt e), fun g hg => (by simp [Value.ownBlock] at hg), fun y hy => (nomatch hy), Nat.zero_le _⟩

set_option maxHeartbeats 2000000 in
set_option maxRecDepth 100000 in
theorem new_bad (d : Df) (pv : Value) (w : World) (h : d.kind = 4 ∨ defB { d with type := 0 } = false) :
    Calls Tryz.prog 8 #[.agg d.cells, pv] w fun e w' => e = .returned (.tuple #[.pointer none, .int .i64 90]) ∧ Kept (fun _ => False) w w' := by
  obtain ⟨kind, key, value, entries, timer, type⟩ := d
  unfold Df.cells
  by_cases h4 : kind = 4
  · subst h4
    clear h
    go_enter Tryz.func8, Tryz.ntmps8
    go_wp2_with fail
    go_ret2
    exact ⟨rfl, ((Kept.refl _ w).alloc _).alloc _⟩
  · have hd : defB ⟨kind, key, value, entries, timer, 0⟩ = false := h.resolve_left h4
    have hdef := fun W => def_any ⟨kind, key, value, entries, timer, 0⟩ (.slice none 0 0) W rfl h4
    rw [hd] at hdef
    have e4 : (kind == 4) = false := by simpa using h4
    have HDEF := Lib.hid hdef
    clear hdef hd h h4
    go_enter Tryz.func8, Tryz.ntmps8
    go_wp2_with fail
    refine (HDEF.out _).mono ?_
    rintro e w2 ⟨rfl, hk2⟩
    go_wp2_with fail
    go_ret2
    exact ⟨rfl, Kept.trans (((Kept.refl _ w).alloc _).alloc _) hk2 (fun _ _ h => h)⟩

set_option maxHeartbeats 2000000 in
set_option maxRecDepth 100000 in
theorem new_hash (d : Df) (mp : Nat) (v : Value) (L : List Rg) (w : World) (h : IsMem w mp v L) (h2 : d.kind = 2) (hd : defB { d with type := 0 } = true) :
    Calls Tryz.prog 8 #[.agg d.cells, .pointer (some ⟨mp, 0, none⟩)] w fun e w' => ∃ q m, e = .returned (.tuple #[.pointer (some ⟨q, 0, none⟩), .int .i64 0]) ∧ Mp w' ⟨q, mp, m, .slice none 0 0, v⟩ ⟨d, [], []⟩ L ∧ w.heap.size ≤ q ∧ w.heap.size ≤ m ∧ Kept (fun _ => False) w w' := by
  obtain ⟨kind, key, value, entries, timer, type⟩ := d
  simp only at h2
  subst h2
  have hdef := fun W => def_any ⟨2, key, value, entries, timer, 0⟩ (.slice none 0 0) W rfl (by show (2 : Int) ≠ 4; decide)
  rw [hd] at hdef
  have HDEF := Lib.hid hdef
  clear hdef hd
  unfold Df.cells
  have hmm := @run_makeMap Tryz.prog
  go_enter Tryz.func8, Tryz.ntmps8
  go_wp2_with fail
  refine (HDEF.out _).mono ?_
  rintro e w2 ⟨rfl, hk2⟩
  have hk0 : Kept (fun _ => False) w w2 := Kept.trans (((Kept.refl _ w).alloc _).alloc _) hk2 (fun _ _ h => h)
  have hb2 : Blk w2 w.heap.size 23 #[.int .i64 2, .int .i64 key, .int .i64 value, .int .i64 entries, .bool timer, .int .i64 type] := hk2.blk (fun h => h) ((Blk.new w _ _).alloc _)
  have hc2 := hb2.cell
  have hs2 := hk0.size
  have hlt := hb2.lt
  have hlt2 : w.heap.size < w2.heap.size + 1 := by omega
  have hmade : Mp ((w2.alloc (.map #[] 0)).alloc (.cells #[.int .i64 2, .int .i64 key, .int .i64 value, .int .i64 entries, .bool timer, .int .i64 type, .pointer (some ⟨mp, 0, none⟩), .map (some w2.heap.size), .slice none 0 0] 61)) ⟨w2.heap.size + 1, mp, w2.heap.size, .slice none 0 0, v⟩ ⟨⟨2, key, value, entries, timer, type⟩, [], []⟩ L := by
    refine Mp.made h _ ((hk0.alloc _).alloc _) (by omega) hs2 ?_ ((SMap.made w2).alloc _)
    have := Blk.new (w2.alloc (.map #[] 0)) 61 #[.int .i64 2, .int .i64 key, .int .i64 value, .int .i64 entries, .bool timer, .int .i64 type, .pointer (some ⟨mp, 0, none⟩), .map (some w2.heap.size), .slice none 0 0]
    have e : (w2.alloc (.map #[] 0)).heap.size = w2.heap.size + 1 := by simp
    rw [e] at this
    exact this
  have HM := Lib.hid hmade
  clear hmade
  go_wp2_with fail
  go_ret2
  exact ⟨_, _, rfl, HM.out, by omega, hs2, (hk0.alloc _).alloc _⟩

end Go.Proofs.YtahabogjfcdjkaaGreat
