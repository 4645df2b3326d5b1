import Derived.Test.YtahabogjfcdjkaaGreatOd
set_option linter.unusedSimpArgs false
set_option linter.unusedVariables false
namespace Go.Proofs.YtahabogjfcdjkaaGreat
open Go.RowKit

/-! ### a map (package maps) over a memory of regions -/
structure MS where
  d : Df
  ent : List (List UInt8 × Int)
  progs : List Int
structure Loc where
  q : Nat
  mp : Nat
  m : Nat
  pv : Value
  v : Value
def pcell (n : Int) : List Value := [.int .i64 n]
theorem pcell_one (n : Int) : ∀ u ∈ pcell n, u.oneCell' = true := by simp [pcell, Value.oneCell']
def MS.cells (S : MS) (x : Loc) : Array Value := #[.int .i64 S.d.kind, .int .i64 S.d.key, .int .i64 S.d.value, .int .i64 S.d.entries, .bool S.d.timer, .int .i64 S.d.type, .pointer (some ⟨x.mp, 0, none⟩), .map (some x.m), x.pv]
def MS.vals (S : MS) : List (List UInt8 × Value) := S.ent.map fun y => (y.1, Value.int .i64 y.2)

structure Mp (w : World) (x : Loc) (S : MS) (L : List Rg) : Prop where
  blk : Blk w x.q 61 (S.cells x)
  map : SMap w x.m S.vals
  prog : Sl w 3 1 x.pv (S.progs.map pcell)
  mem : IsMem w x.mp x.v L
  dq : x.q ∉ blM x.mp x.v L
  dm : x.m ∉ blM x.mp x.v L
  dp : ∀ g, x.pv.ownBlock = some g → g ∉ blM x.mp x.v L ∧ g ≠ x.q ∧ g ≠ x.m
  ids : ∀ y ∈ S.ent, ∃ (i : Nat) (r : Rg), y.2 = (i : Int) + 1 ∧ L[i]? = some r ∧ (r.b.length : Int) = S.d.value
  few : S.ent.length ≤ 1000000

/-- all its blocks -/
def fpMp (x : Loc) (L : List Rg) (k : Nat) : Prop := k = x.q ∨ k = x.m ∨ x.pv.ownBlock = some k ∨ k ∈ blM x.mp x.v L

section
variable {w w' : World} {x : Loc} {S : MS} {L : List Rg}
theorem Mp.qm (h : Mp w x S L) : x.m ≠ x.q := by
  obtain ⟨es, cl, hm, _⟩ := h.map
  intro e
  have hb := h.blk
  unfold Blk at hb
  rw [← e, hm] at hb
  cases hb
theorem Mp.lt (h : Mp w x S L) {k : Nat} (hk : fpMp x L k) : k < w.heap.size := by
  rcases hk with rfl | rfl | hk | hk
  · exact h.blk.lt
  · exact h.map.lt
  · exact h.prog.lt k hk
  · exact h.mem.lt hk
theorem Mp.kept {F : Nat → Prop} (h : Mp w x S L) (hk : Kept F w w') (hF : ∀ k, fpMp x L k → ¬ F k) : Mp w' x S L :=
  ⟨hk.blk (hF _ (.inl rfl)) h.blk, h.map.kept hk (hF _ (.inr (.inl rfl))), h.prog.kept hk (fun g hg => hF g (.inr (.inr (.inl hg)))), h.mem.kept hk (fun k hk => hF k (.inr (.inr (.inr hk)))), h.dq, h.dm, h.dp, h.ids, h.few⟩
theorem Mp.quiet (h : Mp w x S L) (hk : Kept (fun _ => False) w w') : Mp w' x S L := h.kept hk (fun _ _ h => h)
theorem Mp.drew (h : Mp w x S L) : Mp w.drew x S L := h.quiet (Kept.drew (Kept.refl _ w))
theorem Mp.drewN (h : Mp w x S L) (n : Nat) : Mp (w.drewN n) x S L := h.quiet (Kept.drewN (Kept.refl _ w) n)
/-- the memory goes on -/
theorem Mp.memory {v' : Value} {L' : List Rg} (h : Mp w x S L) (hk : Kept (fun k => k ∈ blM x.mp x.v L) w w') (hm : IsMem w' x.mp v' L') (hb : ∀ k ∈ blM x.mp v' L', k ∈ blM x.mp x.v L ∨ w.heap.size ≤ k) (hl : ∀ (i : Nat) (r : Rg), L[i]? = some r → ∃ r', L'[i]? = some r' ∧ r'.b.length = r.b.length) :
    Mp w' { x with v := v' } S L' :=
  ⟨hk.blk h.dq h.blk, h.map.kept hk h.dm, h.prog.kept hk (fun g hg => (h.dp g hg).1), hm, fun e => by
    rcases hb _ e with e | e
    · exact h.dq e
    · exact absurd h.blk.lt (Nat.not_lt.2 e), fun e => by
    rcases hb _ e with e | e
    · exact h.dm e
    · exact absurd h.map.lt (Nat.not_lt.2 e), fun g hg => ⟨fun e => by
    rcases hb _ e with e | e
    · exact (h.dp g hg).1 e
    · have := h.prog.lt g hg; omega, (h.dp g hg).2⟩, fun y hy => by
    obtain ⟨i, r, h1, h2, h3⟩ := h.ids y hy
    obtain ⟨r', h4, h5⟩ := hl i r h2
    exact ⟨i, r', h1, h4, by rw [h5]; exact h3⟩, h.few⟩
theorem look_vals (k : List UInt8) : lookS S.vals k = (lookS S.ent k).map fun n => Value.int .i64 n := by
  unfold MS.vals
  induction S.ent with
  | nil => rfl
  | cons y r ih =>
    obtain ⟨a, b⟩ := y
    simp only [List.map_cons, lookS]
    split
    · rfl
    · exact ih
theorem lookS_mem {α : Type} {l : List (List UInt8 × α)} {k : List UInt8} {u : α} (h : lookS l k = some u) : (k, u) ∈ l := by
  induction l with
  | nil => cases h
  | cons y r ih =>
    obtain ⟨a, b⟩ := y
    simp only [lookS] at h
    split at h
    · rename_i e; cases h; subst e; exact List.mem_cons_self ..
    · exact List.mem_cons_of_mem _ (ih h)
end

theorem zeroInt : ∀ w, (zeroValue 3).run Tryz.prog w = .ok (.int .i64 0) w := fun w => by kernel_rfl

set_option maxHeartbeats 400000 in
theorem hidden_any (x : Loc) (S : MS) (L : List Rg) (w : World) (h : Mp w x S L) :
    Calls Tryz.prog 44 #[.pointer (some ⟨x.q, 0, none⟩)] w fun e w' => e = .returned (.int .i64 (if S.d.timer then 16 else 0)) ∧ w = w' := by
  have hb := h.blk.cell
  simp only [MS.cells] at hb
  cases ht : S.d.timer
  all_goals
    rw [ht] at hb
    go_enter Tryz.func44, Tryz.ntmps44
    go_wp2
    go_ret
    exact ⟨rfl, rfl⟩

def asksC (d : Df) (n : Nat) : Int := if d.kind = 3 then 95 else if (n : Int) = d.key then 0 else 91

set_option maxHeartbeats 400000 in
theorem asks_any (x : Loc) (S : MS) (L : List Rg) (kv : Value) (k : List UInt8) (w : World) (h : Mp w x S L) (hk : By w kv k) :
    Calls Tryz.prog 58 #[.pointer (some ⟨x.q, 0, none⟩), kv] w fun e w' => e = .returned (.int .i64 (asksC S.d k.length)) ∧ w = w' := by
  have hb := h.blk.cell
  obtain ⟨A, c, rfl⟩ := hk.any
  simp only [MS.cells] at hb
  unfold asksC
  by_cases h3 : S.d.kind = 3
  · rw [h3] at hb
    rw [if_pos h3]
    clear h3
    go_enter Tryz.func58, Tryz.ntmps58
    go_wp2
    go_ret
    exact ⟨rfl, rfl⟩
  · rw [if_neg h3]
    have e3 : (S.d.kind == 3) = false := by simpa using h3
    clear h3
    by_cases h4 : (k.length : Int) = S.d.key
    · rw [if_pos h4]
      have e4 : ((k.length : Int) != S.d.key) = false := by simpa using h4
      clear h4
      go_enter Tryz.func58, Tryz.ntmps58
      go_wp2
      go_ret
      exact ⟨rfl, rfl⟩
    · rw [if_neg h4]
      have e4 : ((k.length : Int) != S.d.key) = true := by simpa using h4
      clear h4
      go_enter Tryz.func58, Tryz.ntmps58
      go_wp2
      go_ret
      exact ⟨rfl, rfl⟩

set_option maxHeartbeats 1000000 in
theorem lookup_ok (x : Loc) (S : MS) (L : List Rg) (kv : Value) (k : List UInt8) (w : World) (h : Mp w x S L) (hk : By w kv k) (ha : asksC S.d k.length = 0) :
    Calls Tryz.prog 33 #[.pointer (some ⟨x.q, 0, none⟩), kv] w fun e w' => e = .returned (.tuple #[.int .i64 ((lookS S.ent k).getD 0), .bool (lookS S.ent k).isSome, .int .i64 0]) ∧ w' = w.drew := by
  have hb := h.blk.cell
  simp only [MS.cells] at hb
  have hlk := h.map.drew.look2 (P := Tryz.prog) Tryz.underlying58 Tryz.underlying9 zeroInt k
  rw [look_vals] at hlk
  have hl : ((lookS S.ent k).map fun n => Value.int .i64 n).getD (.int .i64 0) = .int .i64 ((lookS S.ent k).getD 0) := by cases lookS S.ent k <;> rfl
  have hl2 : ((lookS S.ent k).map fun n => Value.int .i64 n).isSome = (lookS S.ent k).isSome := by cases lookS S.ent k <;> rfl
  rw [hl, hl2] at hlk
  have hcv : (convert 39 9 kv).run Tryz.prog w.drew = .ok (sV k) w.drew := hk.drew.conv Tryz.underlying39 Tryz.underlying5 Tryz.underlying9
  have hask := asks_any x S L kv k w h hk
  rw [ha] at hask
  have HA := Lib.hid hask
  clear hask ha hl hl2
  go_enter Tryz.func33, Tryz.ntmps33
  go_wp2_with (go_at_call 58; refine HA.out.mono ?_; rintro e w1 ⟨rfl, rfl⟩)
  refine wp_region_mix0 [.w, .w, .w, .l, .w, .l, .l, .w, .w, .w, .w, .w] (by kernel_rfl) (by kernel_rfl) ?_
  repeat (first
    | (refine mix_w1 ?_; go_big_quiet_step (fail); refine wpQuiet_nil ?_)
    | (refine mix_l1 rfl ?_; go_big_quiet_step (fail); refine wpQuiet_nil ?_))
  refine mix_nil ?_
  go_wp2_with fail
  go_ret3
  exact ⟨rfl, rfl⟩

set_option maxHeartbeats 400000 in
theorem lookup_bad (x : Loc) (S : MS) (L : List Rg) (kv : Value) (k : List UInt8) (w : World) (h : Mp w x S L) (hk : By w kv k) (ha : asksC S.d k.length ≠ 0) :
    Calls Tryz.prog 33 #[.pointer (some ⟨x.q, 0, none⟩), kv] w fun e w' => e = .returned (.tuple #[.int .i64 0, .bool false, .int .i64 (asksC S.d k.length)]) ∧ w = w' := by
  have hask := asks_any x S L kv k w h hk
  have hne : (asksC S.d k.length != 0) = true := by simpa using ha
  generalize asksC S.d k.length = c at *
  have HA := Lib.hid hask
  clear hask ha
  go_enter Tryz.func33, Tryz.ntmps33
  go_wp2_with (go_at_call 58; refine HA.out.mono ?_; rintro e w1 ⟨rfl, rfl⟩)
  go_ret3
  exact ⟨rfl, rfl⟩

end Go.Proofs.YtahabogjfcdjkaaGreat
