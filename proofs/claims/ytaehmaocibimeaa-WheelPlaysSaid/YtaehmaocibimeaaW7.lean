import Derived.Test.YtaehmaocibimeaaW5
import Derived.Test.YtaehmaocibimeaaP4
import Derived.Lib.SliceRun
set_option linter.unusedSimpArgs false
set_option linter.unusedVariables false
namespace Go.Proofs.Ytaehmaocibimeaa
open Go.RowKit

set_option maxHeartbeats 400000 in
theorem cancel_none (p m : Nat) (v : Value) (S : WS) (id : Int) (w : World) (h : IsW w p m v S) (hl : lookI S.all id = none) :
    Calls Try.prog 13 #[.pointer (some ⟨p, 0, none⟩), .int .i64 id] w fun e w' => e = .returned (.tuple #[.bool false, .int .i64 120]) ∧ w = w' := by
  have hb := h.blk.cell
  have hlk := h.map.look2 (P := Try.prog) Try.underlying62 Try.underlying3 zero67 id
  rw [look_ptrs, hl] at hlk
  go_enter Try.func13, Try.ntmps13
  go_wp2
  go_ret2
  exact ⟨rfl, rfl⟩

set_option maxHeartbeats 400000 in
theorem cancel_ok (p m : Nat) (v : Value) (S : WS) (id : Int) (w : World) (h : IsW w p m v S) {g : Nat} {t : Tm} (hl : lookI S.all id = some (g, t)) :
    Calls Try.prog 13 #[.pointer (some ⟨p, 0, none⟩), .int .i64 id] w fun e w' => e = .returned (.tuple #[.bool (decide (0 < t.start)), .int .i64 0]) ∧ IsW w' p m v { S with all := updI S.all id (g, { t with start := 0 }) } ∧ Kept (fun k => k = g) w w' := by
  have hb := h.blk.cell
  have hlk := h.map.look2 (P := Try.prog) Try.underlying62 Try.underlying3 zero67 id
  rw [look_ptrs, hl] at hlk
  have hg := h.tms _ (look_mem hl)
  have hgc := hg.cell
  have hgf := hg.frozen
  simp only [Tm.cells] at hgc
  go_enter Try.func13, Try.ntmps13
  go_wp2
  go_ret2
  have hk : Kept (fun k => k = g) w (w.setCell ⟨g, 5, none⟩ (.int .i64 0)) := Kept.setCell (F := fun k => k = g) (Kept.refl _ w) (fun _ => rfl) _
  exact ⟨rfl, h.updT hl hk (hg.set_ 5 _), hk⟩

theorem now_any (p m : Nat) (v : Value) (S : WS) (w : World) (h : IsW w p m v S) :
    Calls Try.prog 22 #[.pointer (some ⟨p, 0, none⟩)] w fun e w' => e = .returned (.int .u64 S.now) ∧ w = w' := by
  have hb := h.blk.cell
  go_enter Try.func22, Try.ntmps22
  go_wp2
  go_ret
  exact ⟨rfl, rfl⟩

theorem del_ptrs (l : List (Int × (Nat × Tm))) (x : Int) : ptrs (delI l x) = delI (ptrs l) x := by
  induction l with
  | nil => rfl
  | cons y r ih =>
    obtain ⟨k, v⟩ := y
    simp only [ptrs, List.map_cons, delI] at ih ⊢
    split
    · rfl
    · simp only [List.map_cons]; rw [ih]
theorem mem_del {α : Type} {l : List (Int × α)} {x : Int} {z : Int × α} (h : z ∈ delI l x) : z ∈ l := by
  induction l with
  | nil => exact h
  | cons y r ih =>
    obtain ⟨k, v⟩ := y
    simp only [delI] at h
    split at h
    · exact List.mem_cons_of_mem _ h
    · rcases List.mem_cons.1 h with rfl | h
      · exact List.mem_cons_self ..
      · exact List.mem_cons_of_mem _ (ih h)
theorem del_sub {α : Type} (l : List (Int × α)) (x : Int) : (delI l x).Sublist l := by
  induction l with
  | nil => exact List.Sublist.refl _
  | cons y r ih =>
    obtain ⟨k, v⟩ := y
    simp only [delI]
    split
    · exact List.sublist_cons_self ..
    · exact ih.cons_cons _

set_option maxHeartbeats 400000 in
theorem drop_any (p m : Nat) (v : Value) (S : WS) (id : Int) (w : World) (h : IsW w p m v S) :
    Calls Try.prog 20 #[.pointer (some ⟨p, 0, none⟩), .int .i64 id] w fun e w' => e = .returned (.tuple #[]) ∧ IsW w' p m v { S with all := delI S.all id } ∧ Kept (fun k => k = m) w w' := by
  have hb := h.blk.cell
  obtain ⟨w1, hrun, hm1, hk1⟩ := h.map.del (P := Try.prog) Try.underlying62 Try.underlying3 id 0 #[62, 3] rfl
  go_enter Try.func20, Try.ntmps20
  go_wp2
  go_end0
  refine ⟨rfl, ⟨hk1.blk (fun e => h.m_ne_p e.symm) h.blk, ?_, fun x hx => hk1.blk (fun e => h.g_ne_m (mem_del hx) e) (h.tms x (mem_del hx)), Sl.kept hk1 h.own (fun g hg e => h.ne_m (by rw [hg, e])), fun x hx => h.sep x (mem_del hx), h.nod.sublist (del_sub _ _), h.now0, h.now1, h.st0, h.st1, h.small⟩, hk1⟩
  show IMap w1 .i64 m (ptrs (delI S.all id))
  rw [del_ptrs]
  exact hm1

theorem Own.news (w : World) : Own (w.alloc (.cells #[] 70)) (.slice (some ⟨w.heap.size, 0, none⟩) 0 0) [] :=
  ⟨by simp, by simp, .inr ⟨w.heap.size, 0, #[], rfl, Nat.zero_le _, heap_alloc_new w _, Nat.le_refl _, by unfold maxLen; omega, rfl, rfl⟩⟩

set_option maxHeartbeats 400000 in
theorem clone_any (v : Value) (L : List Tm) (w : World) (h : Own w v L) (hs : L.length ≤ 1000000) :
    Calls Try.prog 32 #[v] w fun e w' => ∃ ov, e = .returned ov ∧ Own w' ov L ∧ (∀ g, ov.ownBlock = some g → w.heap.size ≤ g) ∧ Kept (fun _ => False) w w' := by
  obtain ⟨i0, hI0, hI1, hI2, hI3⟩ := info_parts info70
  have q64 : ∀ (w : World) (r : Option Addr) (n c : Nat), (binOp .eql 64 (.slice r n c) (.slice none 0 0)).run Try.prog w = .ok (.bool r.isNone) w := fun w r n c => Lib.run_eql_slice_nil w 64 70 r n c 0 0 Try.underlying64
  rcases h.shape with ⟨rfl, hL⟩ | ⟨g, cap, rfl, hc, hg⟩
  · obtain rfl : L = [] := by simpa using hL
    go_enter Try.func32, Try.ntmps32
    go_wp2_with fail
    go_ret
    exact ⟨_, rfl, Sl.nil _ _ _, by simp [Value.ownBlock], Kept.refl _ w⟩
  · simp only [List.length_map] at h hc ⊢
    go_enter Try.func32, Try.ntmps32
    go_wp2_with (at_builtin; refine wpList_appendSl (w := w.alloc (.cells #[] 70)) rfl (.tmp 5) (.tmp 6) 64 rfl Try.underlying64 hI0 hI1 hI2 hI3 rfl (by omega) (.slice (some ⟨w.heap.size, 0, none⟩) 0 0) _ [] (L.map Tm.cells) rfl rfl (Own.news w) (h.alloc _) (fun c hc => by obtain ⟨x, _, rfl⟩ := List.mem_map.1 hc; exact Tm.cells_one x) (by simp; omega) (by omega) ?_; intro v5 w5 hS5 hk5 hv5)
    go_ret
    refine ⟨_, rfl, hS5, fun g' hg' => ?_, Kept.trans (Kept.alloc (Kept.refl _ w) _) hk5 (fun x hx e => ?_)⟩
    · rcases hv5 g' hg' with e | e
      · simp only [Value.ownBlock, Option.some.injEq] at e
        omega
      · have : w.heap.size + 1 ≤ g' := by simpa using e
        omega
    · simp only [Value.ownBlock, Option.some.injEq] at e
      omega

end Go.Proofs.Ytaehmaocibimeaa
