import Derived.Test.YtaehmaocibimeaaHeap2
import Derived.Test.YtaehmaocibimeaaIMap
set_option linter.unusedSimpArgs false
set_option linter.unusedVariables false
namespace Go.Proofs.Ytaehmaocibimeaa
open Go.RowKit

structure WS where
  now : Int
  starts : Int
  all : List (Int × (Nat × Tm))
  due : List Tm

def ptrs (l : List (Int × (Nat × Tm))) : List (Int × Value) := l.map fun x => (x.1, Value.pointer (some ⟨x.2.1, 0, none⟩))

structure IsW (w : World) (p m : Nat) (v : Value) (S : WS) : Prop where
  blk : Blk w p 66 #[.int .u64 S.now, .int .i64 S.starts, .map (some m), v]
  map : IMap w .i64 m (ptrs S.all)
  tms : ∀ x ∈ S.all, Blk w x.2.1 70 x.2.2.cells.toArray
  own : Own w v S.due
  sep : ∀ x ∈ S.all, v.ownBlock ≠ some x.2.1
  nod : S.all.Pairwise fun x y => x.1 ≠ y.1 ∧ x.2.1 ≠ y.2.1
  now0 : 0 ≤ S.now
  now1 : S.now < 18446744073709551616
  st0 : 0 ≤ S.starts
  st1 : S.starts ≤ 1000000
  small : S.due.length ≤ S.starts

theorem IsW.ne_p {w : World} {p m : Nat} {v : Value} {S : WS} (h : IsW w p m v S) : v.ownBlock ≠ some p := by
  rcases h.own.2.2 with ⟨rfl, _⟩ | ⟨g, cap, cur, rfl, _, hg, _⟩
  · simp [Value.ownBlock]
  · intro e
    simp only [Value.ownBlock, Option.some.injEq] at e
    subst e
    have := h.blk
    unfold Blk at this
    rw [hg] at this
    simp at this
theorem IsW.ne_m {w : World} {p m : Nat} {v : Value} {S : WS} (h : IsW w p m v S) : v.ownBlock ≠ some m := by
  rcases h.own.2.2 with ⟨rfl, _⟩ | ⟨g, cap, cur, rfl, _, hg, _⟩
  · simp [Value.ownBlock]
  · intro e
    simp only [Value.ownBlock, Option.some.injEq] at e
    subst e
    obtain ⟨es, cl, hm, _⟩ := h.map
    rw [hg] at hm
    cases hm
theorem IsW.m_ne_p {w : World} {p m : Nat} {v : Value} {S : WS} (h : IsW w p m v S) : m ≠ p := h.map.ne_blk h.blk
theorem IsW.g_ne_p {w : World} {p m : Nat} {v : Value} {S : WS} (h : IsW w p m v S) {x : Int × (Nat × Tm)} (hx : x ∈ S.all) : x.2.1 ≠ p := by
  intro e
  have h1 := h.tms x hx
  have h2 := h.blk
  rw [e] at h1
  unfold Blk at h1 h2
  rw [h1] at h2
  simp at h2
theorem IsW.g_ne_m {w : World} {p m : Nat} {v : Value} {S : WS} (h : IsW w p m v S) {x : Int × (Nat × Tm)} (hx : x ∈ S.all) : x.2.1 ≠ m := fun e => h.map.ne_blk (h.tms x hx) e.symm

/-- the blocks of a wheel -/
def fpW (p m : Nat) (v : Value) (S : WS) : Nat → Prop := fun k => k = p ∨ k = m ∨ v.ownBlock = some k ∨ ∃ x ∈ S.all, k = x.2.1

theorem IsW.kept {w w' : World} {p m : Nat} {v : Value} {S : WS} {F : Nat → Prop} (h : IsW w p m v S) (hk : Kept F w w') (hF : ∀ k, fpW p m v S k → ¬ F k) : IsW w' p m v S :=
  ⟨hk.blk (hF p (.inl rfl)) h.blk, h.map.kept hk (hF m (.inr (.inl rfl))), fun x hx => hk.blk (hF _ (.inr (.inr (.inr ⟨x, hx, rfl⟩)))) (h.tms x hx),
    Sl.kept hk h.own (fun g hg => hF g (.inr (.inr (.inl hg)))), h.sep, h.nod, h.now0, h.now1, h.st0, h.st1, h.small⟩
theorem IsW.fp_lt {w : World} {p m : Nat} {v : Value} {S : WS} (h : IsW w p m v S) {k : Nat} (hk : fpW p m v S k) : k < w.heap.size := by
  rcases hk with rfl | rfl | hk | ⟨x, hx, rfl⟩
  · exact h.blk.lt
  · exact h.map.lt
  · exact h.own.lt k hk
  · exact (h.tms x hx).lt
theorem IsW.drewN {w : World} {p m : Nat} {v : Value} {S : WS} (h : IsW w p m v S) (n : Nat) : IsW (w.drewN n) p m v S := h.kept (F := fun _ => False) (Kept.drewN (Kept.refl _ w) n) (fun _ _ h => h)

theorem look_ptrs (l : List (Int × (Nat × Tm))) (x : Int) : lookI (ptrs l) x = (lookI l x).map fun y => Value.pointer (some ⟨y.1, 0, none⟩) := by
  induction l with
  | nil => rfl
  | cons y r ih =>
    obtain ⟨k, g, t⟩ := y
    simp only [ptrs, List.map_cons, lookI] at ih ⊢
    split
    · rfl
    · exact ih
theorem look_mem {α : Type} {l : List (Int × α)} {x : Int} {u : α} (h : lookI l x = some u) : (x, u) ∈ l := by
  induction l with
  | nil => cases h
  | cons y r ih =>
    obtain ⟨k, v⟩ := y
    simp only [lookI] at h
    split at h
    · rename_i e; cases h; subst e; exact List.mem_cons_self ..
    · exact List.mem_cons_of_mem _ (ih h)
theorem upd_ptrs {l : List (Int × (Nat × Tm))} {x : Int} {g : Nat} {t t' : Tm} (h : lookI l x = some (g, t)) : ptrs (updI l x (g, t')) = ptrs l := by
  induction l with
  | nil => cases h
  | cons y r ih =>
    obtain ⟨k, v⟩ := y
    simp only [lookI] at h
    simp only [updI]
    split at h
    · rename_i e; cases h; rw [if_pos e]; simp [ptrs]
    · rename_i e; rw [if_neg e]; simp only [ptrs, List.map_cons] at ih ⊢; rw [ih h]
theorem upd_new {α : Type} {l : List (Int × α)} {x : Int} {u : α} (h : lookI l x = none) : updI l x u = l ++ [(x, u)] := by
  induction l with
  | nil => rfl
  | cons y r ih =>
    obtain ⟨k, v⟩ := y
    simp only [lookI] at h
    simp only [updI]
    split at h
    · cases h
    · rename_i e; rw [if_neg e, ih h]; rfl
theorem mem_upd {α : Type} {l : List (Int × α)} {x : Int} {u : α} {z : Int × α} (h : z ∈ updI l x u) : z = (x, u) ∨ z ∈ l := by
  induction l with
  | nil => simp [updI] at h; exact .inl h
  | cons y r ih =>
    obtain ⟨k, v⟩ := y
    simp only [updI] at h
    split at h
    · rename_i e
      subst e
      rcases List.mem_cons.1 h with h | h
      · exact .inl h
      · exact .inr (List.mem_cons_of_mem _ h)
    · rcases List.mem_cons.1 h with h | h
      · exact .inr (by rw [h]; exact List.mem_cons_self ..)
      · exact (ih h).imp id (List.mem_cons_of_mem _)
theorem look_upd {α : Type} {l : List (Int × α)} {x y : Int} {u : α} : lookI (updI l x u) y = if x = y then some u else lookI l y := by
  induction l with
  | nil => simp [updI, lookI]
  | cons z r ih =>
    obtain ⟨k, v⟩ := z
    simp only [updI]
    by_cases e : k = x
    · subst e
      simp only [if_true, lookI]
      split <;> rfl
    · simp only [e, if_false, lookI, ih]
      by_cases e2 : x = y
      · subst e2; simp [e]
      · simp [e2]

theorem look_none_mem {α : Type} {l : List (Int × α)} {x : Int} (h : lookI l x = none) : ∀ z ∈ l, z.1 ≠ x := by
  induction l with
  | nil => intro z hz; cases hz
  | cons y r ih =>
    obtain ⟨k, v⟩ := y
    simp only [lookI] at h
    split at h
    · cases h
    · rename_i e
      intro z hz
      rcases List.mem_cons.1 hz with rfl | hz
      · exact e
      · exact ih h z hz

/-- one timer's record is written anew -/
theorem upd_pair {l : List (Int × (Nat × Tm))} (hn : l.Pairwise fun x y => x.1 ≠ y.1 ∧ x.2.1 ≠ y.2.1) {x : Int} {g : Nat} {t t' : Tm} (h : lookI l x = some (g, t)) :
    ((updI l x (g, t')).Pairwise fun x y => x.1 ≠ y.1 ∧ x.2.1 ≠ y.2.1) ∧ ∀ z ∈ updI l x (g, t'), z = (x, (g, t')) ∨ (z ∈ l ∧ z.2.1 ≠ g) := by
  induction l with
  | nil => cases h
  | cons y r ih =>
    obtain ⟨k, v⟩ := y
    obtain ⟨hy, hr⟩ := List.pairwise_cons.1 hn
    simp only [lookI] at h
    simp only [updI]
    split at h
    · rename_i e
      cases h
      subst e
      rw [if_pos rfl]
      refine ⟨List.pairwise_cons.2 ⟨fun z hz => hy z hz, hr⟩, fun z hz => ?_⟩
      rcases List.mem_cons.1 hz with rfl | hz
      · exact .inl rfl
      · exact .inr ⟨List.mem_cons_of_mem _ hz, (hy z hz).2.symm⟩
    · rename_i e
      rw [if_neg e]
      obtain ⟨h1, h2⟩ := ih hr h
      have hm := look_mem h
      refine ⟨List.pairwise_cons.2 ⟨fun z hz => ?_, h1⟩, fun z hz => ?_⟩
      · rcases h2 z hz with rfl | ⟨hz, _⟩
        · have := hy (x, (g, t)) hm; exact this
        · exact hy z hz
      · rcases List.mem_cons.1 hz with rfl | hz
        · exact .inr ⟨List.mem_cons_self .., (hy _ hm).2⟩
        · rcases h2 z hz with h | ⟨h, h'⟩
          · exact .inl h
          · exact .inr ⟨List.mem_cons_of_mem _ h, h'⟩

theorem IsW.updT {w w' : World} {p m : Nat} {v : Value} {S : WS} (h : IsW w p m v S) {x : Int} {g : Nat} {t t' : Tm} (hl : lookI S.all x = some (g, t)) (hk : Kept (fun k => k = g) w w') (hb : Blk w' g 70 t'.cells.toArray) :
    IsW w' p m v { S with all := updI S.all x (g, t') } := by
  have hm := look_mem hl
  obtain ⟨h1, h2⟩ := upd_pair h.nod (t' := t') hl
  refine ⟨hk.blk (fun e => h.g_ne_p hm e.symm) h.blk, ?_, ?_, Sl.kept hk h.own (fun g' hg' e => h.sep _ hm (by rw [hg', e])), ?_, h1, h.now0, h.now1, h.st0, h.st1, h.small⟩
  · show IMap w' .i64 m (ptrs (updI S.all x (g, t')))
    rw [upd_ptrs hl]
    exact h.map.kept hk (fun e => h.g_ne_m hm e.symm)
  · intro z hz
    rcases h2 z hz with rfl | ⟨hz, hne⟩
    · exact hb
    · exact hk.blk hne (h.tms z hz)
  · intro z hz
    rcases h2 z hz with rfl | ⟨hz, hne⟩
    · have := h.sep (x, (g, t)) hm; exact this
    · exact h.sep z hz

theorem zero67 : ∀ w, (zeroValue 67).run Try.prog w = .ok (.pointer none) w := fun w => by kernel_rfl

theorem new_any (w : World) : Calls Try.prog 7 #[] w fun e w' => e = .returned (.pointer (some ⟨w.heap.size + 1, 0, none⟩)) ∧ IsW w' (w.heap.size + 1) w.heap.size (.slice none 0 0) ⟨0, 0, [], []⟩ ∧ Kept (fun _ => False) w w' ∧ w.heap.size + 1 < w'.heap.size := by
  have hmm := @run_makeMap Try.prog
  go_enter Try.func7, Try.ntmps7
  go_wp2
  go_ret
  have h1 := IMap.made w .i64
  have h2 := h1.alloc (.cells #[.int .u64 0, .int .i64 0, .map (some w.heap.size), .slice none 0 0] 66)
  refine ⟨by simp, ⟨?_, h2, by simp, Sl.nil _ _ _, by simp, List.Pairwise.nil, by simp, by simp, by simp, by simp, by simp⟩, Kept.alloc (Kept.alloc (Kept.refl _ _) _) _, by simp⟩
  have := Blk.new (w.alloc (.map #[] 0)) 66 #[.int .u64 0, .int .i64 0, .map (some w.heap.size), .slice none 0 0]
  simpa using this

def Tm.new (id : Int) : Tm := ⟨id, 0, 0, false, 0, 0⟩

set_option maxHeartbeats 400000 in
theorem init_has (p m : Nat) (v : Value) (S : WS) (id : Int) (w : World) (h : IsW w p m v S) {y : Nat × Tm} (hl : lookI S.all id = some y) :
    Calls Try.prog 8 #[.pointer (some ⟨p, 0, none⟩), .int .i64 id] w fun e w' => e = .returned (.int .i64 121) ∧ w = w' := by
  have hb := h.blk.cell
  have hlk := h.map.look2 (P := Try.prog) Try.underlying62 Try.underlying3 zero67 id
  rw [look_ptrs, hl] at hlk
  go_enter Try.func8, Try.ntmps8
  go_wp2
  go_ret
  exact ⟨rfl, rfl⟩

set_option maxHeartbeats 400000 in
theorem init_ok (p m : Nat) (v : Value) (S : WS) (id : Int) (w : World) (h : IsW w p m v S) (hl : lookI S.all id = none) :
    Calls Try.prog 8 #[.pointer (some ⟨p, 0, none⟩), .int .i64 id] w fun e w' => e = .returned (.int .i64 0) ∧ IsW w' p m v { S with all := S.all ++ [(id, (w.heap.size, Tm.new id))] } ∧ Kept (fun k => k = m) w w' ∧ w.heap.size < w'.heap.size := by
  have hp := h.blk.lt
  have hb := h.blk.cell
  have hlk := h.map.look2 (P := Try.prog) Try.underlying62 Try.underlying3 zero67 id
  rw [look_ptrs, hl] at hlk
  go_enter Try.func8, Try.ntmps8
  go_wp2_with (refine wpList_updI rfl (.tmp 20) (.tmp 21) (.tmp 24) 62 rfl Try.underlying62 Try.underlying3 (h.map.alloc _) id (.pointer (some ⟨w.heap.size, 0, none⟩)) rfl rfl rfl ?_; intro w1 hm1 hk1)
  go_ret
  have hz : w.heap.size + 1 ≤ w1.heap.size := by have := hk1.size; simpa using this
  have hkk : Kept (fun k => k = m) w w1 := (Kept.alloc (Kept.refl _ w) _).trans hk1 (fun _ _ h => h)
  have hm := h.map.lt
  refine ⟨rfl, ⟨hkk.blk (fun e => h.m_ne_p e.symm) h.blk, ?_, ?_, Sl.kept hkk h.own (fun g hg e => h.ne_m (by rw [hg, e])), ?_, ?_, h.now0, h.now1, h.st0, h.st1, h.small⟩, hkk, by omega⟩
  · have e : ptrs (S.all ++ [(id, (w.heap.size, Tm.new id))]) = updI (ptrs S.all) id (.pointer (some ⟨w.heap.size, 0, none⟩)) := by
      rw [upd_new (by rw [look_ptrs, hl]; rfl)]
      simp [ptrs]
    show IMap w1 .i64 m (ptrs (S.all ++ [(id, (w.heap.size, Tm.new id))]))
    rw [e]
    exact hm1
  · intro x hx
    rcases List.mem_append.1 hx with hx | hx
    · exact hkk.blk (h.g_ne_m hx) (h.tms x hx)
    · rw [List.mem_singleton.1 hx]
      exact hk1.blk (by show w.heap.size ≠ m; omega) (Blk.new w 70 _)
  · intro x hx
    rcases List.mem_append.1 hx with hx | hx
    · exact h.sep x hx
    · rw [List.mem_singleton.1 hx]
      intro e
      have := h.own.lt _ e
      simp at this
  · refine List.pairwise_append.2 ⟨h.nod, List.pairwise_singleton _ _, fun x hx y hy => ?_⟩
    rw [List.mem_singleton.1 hy]
    exact ⟨look_none_mem hl x hx, fun e => by have := (h.tms x hx).lt; rw [e] at this; simp at this⟩

set_option maxHeartbeats 400000 in
theorem cb_none (p m : Nat) (v : Value) (S : WS) (id pr at_ : Int) (w : World) (h : IsW w p m v S) (hl : lookI S.all id = none) :
    Calls Try.prog 9 #[.pointer (some ⟨p, 0, none⟩), .int .i64 id, .int .i64 pr, .int .i64 at_] w fun e w' => e = .returned (.int .i64 120) ∧ w = w' := by
  have hb := h.blk.cell
  have hlk := h.map.look2 (P := Try.prog) Try.underlying62 Try.underlying3 zero67 id
  rw [look_ptrs, hl] at hlk
  go_enter Try.func9, Try.ntmps9
  go_wp2
  go_ret
  exact ⟨rfl, rfl⟩

set_option maxHeartbeats 400000 in
theorem cb_ok (p m : Nat) (v : Value) (S : WS) (id pr at_ : Int) (w : World) (h : IsW w p m v S) {g : Nat} {t : Tm} (hl : lookI S.all id = some (g, t)) :
    Calls Try.prog 9 #[.pointer (some ⟨p, 0, none⟩), .int .i64 id, .int .i64 pr, .int .i64 at_] w fun e w' => e = .returned (.int .i64 0) ∧ IsW w' p m v { S with all := updI S.all id (g, { t with prog := pr, at_ := at_, has := true }) } ∧ Kept (fun k => k = g) w w' := by
  have hb := h.blk.cell
  have hlk := h.map.look2 (P := Try.prog) Try.underlying62 Try.underlying3 zero67 id
  rw [look_ptrs, hl] at hlk
  have hg := h.tms _ (look_mem hl)
  have hgc := hg.cell
  have hgf := hg.frozen
  simp only [Tm.cells] at hgc
  go_enter Try.func9, Try.ntmps9
  go_wp2
  go_ret
  have hk : Kept (fun k => k = g) w (((w.setCell ⟨g, 1, none⟩ (.int .i64 pr)).setCell ⟨g, 2, none⟩ (.int .i64 at_)).setCell ⟨g, 3, none⟩ (.bool true)) :=
    Kept.setCell (F := fun k => k = g) (Kept.setCell (F := fun k => k = g) (Kept.setCell (F := fun k => k = g) (Kept.refl _ w) (fun _ => rfl) _) (fun _ => rfl) _) (fun _ => rfl) _
  refine ⟨rfl, h.updT hl hk ?_, hk⟩
  exact ((hg.set_ 1 _).set_ 2 _).set_ 3 _

end Go.Proofs.Ytaehmaocibimeaa
