import Derived.Test.YtahabogjfcdjkaaGreatSMap
import Derived.Laws.IdiomRangeMap
set_option linter.unusedSimpArgs false
set_option linter.unusedVariables false
namespace Go.Proofs.YtahabogjfcdjkaaGreat
open Go.RowKit

/-! ### 'for k, v := range m' while other blocks are laid and written: the iterator's block lies anywhere -/
section
variable {P : Program} {w : World}

theorem run_setObj_at {r a b : Nat} {m : Option Nat} {s : Array Nat} (h : w.heap[r]? = some (.mapIter m a s b)) (o' : Obj) : (setObj r o').run P w = .ok () { w with heap := w.heap.setIfInBounds r o' } := by
  simp only [setObj, Sem.run, h]

theorem run_next_it {r m clock : Nat} {es : Array MapEntry} {seen : Array Nat} (hr : w.heap[r]? = some (.mapIter (some m) clock seen clock)) (hb : w.heap[m]? = some (.map es clock)) (hst : MapKept.Stamped es clock) :
    ((leftOf es seen).size = 0 ∧ ∀ ty, (Instr.next (.pointer (some ⟨r, 0, none⟩)) false ty).run P w = .ok (.tuple #[.bool false]) w) ∨
    ∃ e ∈ (leftOf es seen).toList, ∃ w1 : World, Kept (fun k => k = r) w w1 ∧ w1.heap[r]? = some (.mapIter (some m) clock (seen.push e.born) clock) ∧ ∀ ty, (Instr.next (.pointer (some ⟨r, 0, none⟩)) false ty).run P w = .ok (.tuple #[.bool true, e.key, e.val]) w1 := by
  have hlt : r < w.heap.size := (Array.getElem?_eq_some_iff.1 hr).1
  have hnt := next_test_false seen es clock clock hst.1 (Nat.le_refl _)
  have hmem : ∀ x ∈ (Array.filter (fun e => !seen.contains e.born) es).toList, x.born < clock := fun x hx => hst.1 x (by simp at hx ⊢; exact hx.1)
  unfold leftOf
  simp only [Instr.next, getObj, Sem.run_bind, Sem.run, hr, hb, Result.andThen, hnt, Bool.false_eq_true, if_false]
  generalize Array.filter (fun e => !seen.contains e.born) es = L at hmem ⊢
  have e1 : L.filter (fun x => decide (x.born < clock)) = L := Array.filter_eq_self.2 (fun x hx => by simpa using hmem x (by simpa using hx))
  have e2 : L.filter (fun x => decide (x.born ≥ clock)) = #[] := by
    rw [Array.filter_eq_empty_iff]
    intro x hx
    have := hmem x (by simpa using hx)
    simp
    omega
  simp only [e1, e2, Array.append_empty]
  by_cases h0 : L.size = 0
  · left
    have : L = #[] := Array.eq_empty_of_size_eq_zero h0
    subst this
    refine ⟨rfl, fun ty => ?_⟩
    simp [choose, Sem.run, Question.forced]
  · right
    have hne : L.isEmpty = false := by simp [Array.isEmpty, h0]
    simp only [hne, Bool.false_eq_true, if_false, Array.empty_append, Array.size_map]
    have hch : ∃ (j : Nat) (w1 : World), j < L.size ∧ w1.heap = w.heap ∧ Kept (fun _ => False) w w1 ∧ (choose (Question.mapNext L.size)).run P w = .ok j w1 := by
      by_cases hf : L.size ≤ 1
      · exact ⟨0, w, by omega, rfl, Kept.refl _ w, by simp [choose, Sem.run, Question.forced, hf]⟩
      · exact ⟨_, w.drew, Nat.mod_lt _ (by omega), rfl, (Kept.refl _ w).drew, by
          simp only [choose, Sem.run, Question.forced, decide_eq_true_eq, hf, if_false, Question.cut]
          rfl⟩
    obtain ⟨j, w1, hj, hh, hk, hrun⟩ := hch
    have hr1 : w1.heap[r]? = some (.mapIter (some m) clock seen clock) := by rw [hh]; exact hr
    refine ⟨L[j], by simp, { w1 with heap := w1.heap.setIfInBounds r (.mapIter (some m) clock (seen.push L[j].born) clock) }, (hk.mono (fun _ _ h => h.elim)).trans (setObj_kept w1 r _) (fun k _ h => h), ?_, fun ty => ?_⟩
    · have : r < w1.heap.size := by rw [hh]; exact hlt
      simp [this]
    · simp only [hrun, Array.getElem?_map, Array.getElem?_eq_getElem hj, Option.map_some, Sem.run_bind, run_setObj_at hr1, Result.andThen]
      rfl

theorem run_entry_it {r m clock : Nat} {es : Array MapEntry} {seen : Array Nat} {e : MapEntry} (hr : w.heap[r]? = some (.mapIter (some m) clock (seen.push e.born) clock)) (hb : w.heap[m]? = some (.map es clock)) (hst : MapKept.Stamped es clock) (he : e ∈ es.toList) :
    (Instr.entry (.pointer (some ⟨r, 0, none⟩))).run P w = .ok (.tuple #[e.key, e.val]) w := by
  have hf : es.find? (·.born == e.born) = some e := by rw [← Array.find?_toList]; exact find_born e es.toList hst.2.1 he
  simp only [Instr.entry, getObj, Sem.run_bind, Sem.run, hr, hb, Result.andThen, Array.back?_push, bne_self_eq_false, Bool.false_eq_true, if_false, hf]
  rfl
end

end Go.Proofs.YtahabogjfcdjkaaGreat
