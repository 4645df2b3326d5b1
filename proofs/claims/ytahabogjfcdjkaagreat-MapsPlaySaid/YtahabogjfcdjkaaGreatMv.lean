import Derived.Test.YtahabogjfcdjkaaGreatMf
set_option linter.unusedSimpArgs false
set_option linter.unusedVariables false
namespace Go.Proofs.YtahabogjfcdjkaaGreat
open Go.RowKit

set_option maxHeartbeats 1000000 in
theorem value_has (x : Loc) (S : MS) (L : List Rg) (kv : Value) (k : List UInt8) (w : World) (h : Mp w x S L) (hk : By w kv k) (ha : asksC S.d k.length = 0) {i : Nat} {r : Rg} (hl : lookS S.ent k = some ((i : Int) + 1)) (hi : L[i]? = some r) :
    Calls Tryz.prog 17 #[.pointer (some ⟨x.q, 0, none⟩), kv] w fun e w' => ∃ ov, e = .returned (.tuple #[ov, .int .i64 0]) ∧ Bs w' ov r.b ∧ (∀ g, ov.ownBlock = some g → w.heap.size ≤ g) ∧ Kept (fun _ => False) w w' := by
  have hb0 := h.blk.cell
  simp only [MS.cells] at hb0
  have hlk := lookup_ok x S L kv k w h hk ha
  rw [hl] at hlk
  simp only [Option.getD_some, Option.isSome_some] at hlk
  have HLK := Lib.hid hlk
  have HI := Lib.hid hi
  clear hlk hi hl ha
  go_enter Tryz.func17, Tryz.ntmps17
  go_wp2_with (go_at_call 33; refine HLK.out.mono ?_; rintro e w1 ⟨rfl, rfl⟩)
  refine (bytes_in x.mp x.v L i _ h.mem.drew HI.out).mono ?_
  rintro e w2 ⟨ov, rfl, hO, hOb, hk2⟩
  go_wp2_with fail
  go_ret2
  exact ⟨_, rfl, hO, hOb, Kept.trans (Kept.drew (Kept.refl _ w)) hk2 (fun _ _ h => h)⟩

set_option maxHeartbeats 1000000 in
theorem value_none (x : Loc) (S : MS) (L : List Rg) (kv : Value) (k : List UInt8) (w : World) (h : Mp w x S L) (hk : By w kv k) (ha : asksC S.d k.length = 0) (hl : lookS S.ent k = none) :
    Calls Tryz.prog 17 #[.pointer (some ⟨x.q, 0, none⟩), kv] w fun e w' => e = .returned (.tuple #[.slice none 0 0, .int .i64 92]) ∧ w' = w.drew := by
  have hlk := lookup_ok x S L kv k w h hk ha
  rw [hl] at hlk
  simp only [Option.getD_none, Option.isSome_none] at hlk
  have HLK := Lib.hid hlk
  clear hlk hl ha
  go_enter Tryz.func17, Tryz.ntmps17
  go_wp2_with (go_at_call 33; refine HLK.out.mono ?_; rintro e w1 ⟨rfl, rfl⟩)
  go_ret2
  exact ⟨rfl, rfl⟩

set_option maxHeartbeats 1000000 in
theorem value_bad (x : Loc) (S : MS) (L : List Rg) (kv : Value) (k : List UInt8) (w : World) (h : Mp w x S L) (hk : By w kv k) (ha : asksC S.d k.length ≠ 0) :
    Calls Tryz.prog 17 #[.pointer (some ⟨x.q, 0, none⟩), kv] w fun e w' => e = .returned (.tuple #[.slice none 0 0, .int .i64 (asksC S.d k.length)]) ∧ w = w' := by
  have hlk := lookup_bad x S L kv k w h hk ha
  have hne : (asksC S.d k.length != 0) = true := by simpa using ha
  generalize asksC S.d k.length = c at *
  have HLK := Lib.hid hlk
  clear hlk ha
  go_enter Tryz.func17, Tryz.ntmps17
  go_wp2_with (go_at_call 33; refine HLK.out.mono ?_; rintro e w1 ⟨rfl, rfl⟩)
  go_ret2
  exact ⟨rfl, rfl⟩

/-- a map without an entry -/
theorem delS_sub {α : Type} {l : List (List UInt8 × α)} {k : List UInt8} {z : List UInt8 × α} (h : z ∈ delS l k) : z ∈ l := by
  induction l with
  | nil => exact h
  | cons y r ih =>
    obtain ⟨a, b⟩ := y
    simp only [delS] at h
    split at h
    · exact List.mem_cons_of_mem _ h
    · rcases List.mem_cons.1 h with h | h
      · rw [h]; exact List.mem_cons_self ..
      · exact List.mem_cons_of_mem _ (ih h)
theorem delS_len {α : Type} (l : List (List UInt8 × α)) (k : List UInt8) : (delS l k).length ≤ l.length := by
  induction l with
  | nil => exact Nat.le_refl _
  | cons y r ih =>
    obtain ⟨a, b⟩ := y
    simp only [delS]
    split <;> simp <;> omega
theorem del_vals (S : MS) (k : List UInt8) : delS S.vals k = (delS S.ent k).map fun y => (y.1, Value.int .i64 y.2) := by
  unfold MS.vals
  induction S.ent with
  | nil => rfl
  | cons y r ih =>
    obtain ⟨a, b⟩ := y
    simp only [List.map_cons, delS]
    split
    · rfl
    · simp only [List.map_cons, ih]
theorem upd_vals (S : MS) (k : List UInt8) (n : Int) : updS S.vals k (.int .i64 n) = (updS S.ent k n).map fun y => (y.1, Value.int .i64 y.2) := by
  unfold MS.vals
  induction S.ent with
  | nil => rfl
  | cons y r ih =>
    obtain ⟨a, b⟩ := y
    simp only [List.map_cons, updS]
    split
    · rfl
    · simp only [List.map_cons, ih]
theorem updS_new {α : Type} {l : List (List UInt8 × α)} {k : List UInt8} {u : α} (h : lookS l k = none) : updS l k u = l ++ [(k, u)] := by
  induction l with
  | nil => rfl
  | cons y r ih =>
    obtain ⟨a, b⟩ := y
    simp only [lookS] at h
    split at h
    · cases h
    · rename_i e
      simp only [updS, if_neg e, ih h, List.cons_append]

theorem Mp.dropped {w w' : World} {x : Loc} {S : MS} {L : List Rg} (h : Mp w x S L) {k : List UInt8} (hm : SMap w' x.m (delS S.vals k)) (hk : Kept (fun n => n = x.m) w w') : Mp w' x { S with ent := delS S.ent k } L := by
  have hqm := h.qm
  refine ⟨hk.blk (fun e => hqm e.symm) h.blk, ?_, h.prog.kept hk (fun g hg e => (h.dp g hg).2.2 e), h.mem.kept hk (fun n hn e => h.dm (by rw [← e]; exact hn)), h.dq, h.dm, h.dp, fun y hy => h.ids y (delS_sub hy), Nat.le_trans (delS_len ..) h.few⟩
  show SMap w' x.m ((delS S.ent k).map fun y => (y.1, Value.int .i64 y.2))
  rw [← del_vals]
  exact hm

set_option maxHeartbeats 1000000 in
theorem delete_bad (x : Loc) (S : MS) (L : List Rg) (kv : Value) (k : List UInt8) (w : World) (h : Mp w x S L) (hk : By w kv k) (ha : asksC S.d k.length ≠ 0) :
    Calls Tryz.prog 24 #[.pointer (some ⟨x.q, 0, none⟩), kv] w fun e w' => e = .returned (.tuple #[.int .i64 0, .int .i64 (asksC S.d k.length)]) ∧ w = w' := by
  have hlk := lookup_bad x S L kv k w h hk ha
  have hne : (asksC S.d k.length != 0) = true := by simpa using ha
  generalize asksC S.d k.length = c at *
  have HLK := Lib.hid hlk
  clear hlk ha
  go_enter Tryz.func24, Tryz.ntmps24
  go_wp2_with (go_at_call 33; refine HLK.out.mono ?_; rintro e w1 ⟨rfl, rfl⟩)
  go_ret2
  exact ⟨rfl, rfl⟩

set_option maxHeartbeats 1000000 in
theorem delete_array (x : Loc) (S : MS) (L : List Rg) (kv : Value) (k : List UInt8) (w : World) (h : Mp w x S L) (hk : By w kv k) (ha : asksC S.d k.length = 0) (h1 : S.d.kind = 1) :
    Calls Tryz.prog 24 #[.pointer (some ⟨x.q, 0, none⟩), kv] w fun e w' => e = .returned (.tuple #[.int .i64 0, .int .i64 95]) ∧ w' = w.drew := by
  have hb0 := h.blk.cell
  simp only [MS.cells] at hb0
  rw [h1] at hb0
  have hlk := lookup_ok x S L kv k w h hk ha
  have HLK := Lib.hid hlk
  clear hlk ha h1
  generalize (lookS S.ent k).getD 0 = a0 at *
  generalize (lookS S.ent k).isSome = a1 at *
  go_enter Tryz.func24, Tryz.ntmps24
  go_wp2_with (go_at_call 33; refine HLK.out.mono ?_; rintro e w1 ⟨rfl, rfl⟩)
  go_ret2
  exact ⟨rfl, rfl⟩

set_option maxHeartbeats 1000000 in
theorem delete_none (x : Loc) (S : MS) (L : List Rg) (kv : Value) (k : List UInt8) (w : World) (h : Mp w x S L) (hk : By w kv k) (ha : asksC S.d k.length = 0) (h1 : S.d.kind ≠ 1) (hl : lookS S.ent k = none) :
    Calls Tryz.prog 24 #[.pointer (some ⟨x.q, 0, none⟩), kv] w fun e w' => e = .returned (.tuple #[.int .i64 0, .int .i64 92]) ∧ w' = w.drew := by
  have hb0 := h.blk.cell
  simp only [MS.cells] at hb0
  have e1 : (S.d.kind == 1) = false := by simpa using h1
  have hlk := lookup_ok x S L kv k w h hk ha
  rw [hl] at hlk
  simp only [Option.getD_none, Option.isSome_none] at hlk
  have HLK := Lib.hid hlk
  clear hlk ha h1 hl
  go_enter Tryz.func24, Tryz.ntmps24
  go_wp2_with (go_at_call 33; refine HLK.out.mono ?_; rintro e w1 ⟨rfl, rfl⟩)
  go_ret2
  exact ⟨rfl, rfl⟩

/-- 'delete(m, k)' -/
theorem wpList_delS' {P : Program} {w : World} {ops : Array Oper} {rest : List Oper} {o : Oper} {a : Act} {Q : Exit → Act → World → Prop} {m : Nat} {L : List (List UInt8 × Value)} {k e : TypeId} (hgd : o.guard = none) (mo x : Operand) (t tk : TypeId) (hop : o.op = .call { callee := .builtin .delete, args := #[mo, x], argTypes := #[t, tk] }) (ht : P.underlying t = some (.map k e)) (hk : P.underlying k = some .string)
    (h : SMap w m L) (i : List UInt8) (hm : a.eval mo = .map (some m)) (hx : a.eval x = sV i)
    (hK : ∀ w', SMap w' m (delS L i) → Kept (fun k => k = m) w w' → wpList P ops Q rest (a.put o.dst (.tuple #[])) w') : wpList P ops Q (o :: rest) a w :=
  wpList_delS hgd mo x t tk hop ht hk h i hm hx hK

set_option maxHeartbeats 1000000 in
theorem delete_has (x : Loc) (S : MS) (L : List Rg) (kv : Value) (k : List UInt8) (w : World) (h : Mp w x S L) (hk : By w kv k) (ha : asksC S.d k.length = 0) (h1 : S.d.kind ≠ 1) {id : Int} (hl : lookS S.ent k = some id) :
    Calls Tryz.prog 24 #[.pointer (some ⟨x.q, 0, none⟩), kv] w fun e w' => e = .returned (.tuple #[.int .i64 id, .int .i64 0]) ∧ Mp w' x { S with ent := delS S.ent k } L ∧ Kept (fun n => n = x.m) w w' := by
  have hb0 := h.blk.cell
  simp only [MS.cells] at hb0
  have e1 : (S.d.kind == 1) = false := by simpa using h1
  have hlk := lookup_ok x S L kv k w h hk ha
  rw [hl] at hlk
  simp only [Option.getD_some, Option.isSome_some] at hlk
  have hcv : (convert 39 9 kv).run Tryz.prog w.drew.drew = .ok (sV k) w.drew.drew := hk.drew.drew.conv Tryz.underlying39 Tryz.underlying5 Tryz.underlying9
  have HLK := Lib.hid hlk
  clear hlk ha h1 hl
  go_enter Tryz.func24, Tryz.ntmps24
  go_wp2_with (go_at_call 33; refine HLK.out.mono ?_; rintro e w1 ⟨rfl, rfl⟩)
  refine wp_region_mix0 [.w, .w, .w, .l, .w, .l, .t] (by kernel_rfl) (by kernel_rfl) ?_
  repeat (first
    | (refine mix_w1 ?_; go_big_quiet_step (fail); refine wpQuiet_nil ?_)
    | (refine mix_l1 rfl ?_; go_big_quiet_step (fail); refine wpQuiet_nil ?_))
  refine mix_t fun Q' hQ' => ?_
  refine wpList_delS rfl (.tmp 33) (.tmp 35) 58 9 rfl Tryz.underlying58 Tryz.underlying9 h.map.drew.drew k rfl rfl ?_
  intro w2 hm2 hk2
  refine hQ' _ _ ?_
  refine mix_nil ?_
  simp only [Act.put]
  go_wp2_with fail
  go_ret2
  have hk2' : Kept (fun n => n = x.m) w w2 := Kept.trans ((Kept.refl _ w).drew.drew) hk2 (fun _ _ h => h)
  exact ⟨rfl, h.dropped hm2 hk2', hk2'⟩

end Go.Proofs.YtahabogjfcdjkaaGreat
