import Derived.Test.YtdchmelgaljpfaaGreatSl
import Derived.Laws.CopyOwn
set_option linter.unusedSimpArgs false
set_option linter.unusedVariables false
namespace Go.Proofs.YtdchmelgaljpfaaGreat
open Go.RowKit

/-! ### a slice at the head of a row, whatever stands behind it -/
def Sg (w : World) (E sz : Nat) (v : Value) (css : List (List Value)) : Prop := (∀ c ∈ css, c.length = sz) ∧
  ((v = .slice none 0 0 ∧ css = []) ∨ ∃ g cap cur, v = .slice (some ⟨g, 0, none⟩) css.length cap ∧ w.heap[g]? = some (.cells cur E (0, 0)) ∧ css.length ≤ cap ∧ cap ≤ maxLen ∧ cap * sz ≤ cur.size ∧ cur.toList.take (css.length * sz) = css.flatten)

section
variable {w w' : World} {E sz : Nat} {v : Value} {css : List (List Value)}
theorem Sl.sg (h : Sl w E sz v css) : Sg w E sz v css := by
  refine ⟨h.1, ?_⟩
  rcases h.2.2 with ⟨hv, hn⟩ | ⟨g, cap, cur, hv, _, hg, hc, hm, hs, ht⟩
  · exact .inl ⟨hv, List.eq_nil_of_length_eq_zero hn⟩
  · exact .inr ⟨g, cap, cur, hv, hg, hc, hm, by omega, ht⟩
theorem Sg.nil (w : World) (E sz : Nat) : Sg w E sz (.slice none 0 0) [] := (Sl.nil w E sz).sg
theorem Sg.shape (h : Sg w E sz v css) : (v = .slice none 0 0 ∧ css = []) ∨ ∃ g cap, v = .slice (some ⟨g, 0, none⟩) css.length cap ∧ css.length ≤ cap ∧ g < w.heap.size := by
  rcases h.2 with h | ⟨g, cap, cur, hv, hg, hc, _⟩
  · exact .inl h
  · exact .inr ⟨g, cap, hv, hc, (Array.getElem?_eq_some_iff.1 hg).1⟩
theorem Sg.some_ (h : Sg w E sz v css) (hn : 0 < css.length) : ∃ g cap, v = .slice (some ⟨g, 0, none⟩) css.length cap ∧ css.length ≤ cap ∧ g < w.heap.size := by
  rcases h.shape with ⟨_, rfl⟩ | h
  · simp at hn
  · exact h
theorem Sg.len {A : Option Addr} {n c : Nat} (h : Sg w E sz (.slice A n c) css) : n = css.length := by
  rcases h.shape with ⟨hv, rfl⟩ | ⟨g, cap, hv, _⟩
  · simp at hv; simp [hv]
  · simp at hv; exact hv.2.1
theorem Sg.any (h : Sg w E sz v css) : ∃ A cap, v = .slice A css.length cap := by
  rcases h.shape with ⟨rfl, rfl⟩ | ⟨g, cap, rfl, _⟩
  · exact ⟨_, _, rfl⟩
  · exact ⟨_, _, rfl⟩
theorem Sg.lt (h : Sg w E sz v css) : ∀ g, v.ownBlock = some g → g < w.heap.size := fun g hg => by
  rcases h.shape with ⟨rfl, _⟩ | ⟨g', cap, rfl, _, hlt⟩
  · simp [Value.ownBlock] at hg
  · simp only [Value.ownBlock, Option.some.injEq] at hg; omega
theorem Sg.kept {F : Nat → Prop} (hk : Kept F w w') (h : Sg w E sz v css) (hF : ∀ g, v.ownBlock = some g → ¬ F g) : Sg w' E sz v css := by
  refine ⟨h.1, ?_⟩
  rcases h.2 with h1 | ⟨g, cap, cur, hv, hg, r⟩
  · exact .inl h1
  · exact .inr ⟨g, cap, cur, hv, hk.heap (hF g (by rw [hv]; rfl)) hg, r⟩
theorem Sg.row {g n cap : Nat} (h : Sg w E sz (.slice (some ⟨g, 0, none⟩) n cap) css) : ∃ cur, w.heap[g]? = some (.cells cur E (0, 0)) ∧ n = css.length ∧ n ≤ cap ∧ cap ≤ maxLen ∧ cap * sz ≤ cur.size ∧ cur.toList.take (css.length * sz) = css.flatten := by
  rcases h.2 with ⟨hv, _⟩ | ⟨g', cap', cur, hv, r1, r2, r3, r4, r5⟩
  · simp at hv
  · simp only [Value.slice.injEq, Option.some.injEq, Addr.mk.injEq, and_true, true_and] at hv
    obtain ⟨rfl, rfl, rfl⟩ := hv
    exact ⟨cur, r1, rfl, r2, r3, r4, r5⟩
/-- the cells of the elements from i on -/
theorem Sg.cells {g n cap : Nat} (h : Sg w E sz (.slice (some ⟨g, 0, none⟩) n cap) css) (i : Nat) : ∀ j u, (css.drop i).flatten[j]? = some u → w.cell? ((⟨g, i * sz, none⟩ : Addr).add j) = some u := by
  obtain ⟨cur, hg, rfl, hc, hm, hs, ht⟩ := h.row
  intro j u hu
  have hadd : (⟨g, i * sz, none⟩ : Addr).add j = ⟨g, i * sz + j, none⟩ := by unfold Addr.add; split <;> simp_all
  rw [hadd, cell_of_row w g (i * sz + j) cur E (0, 0) hg]
  have hlt : j < (css.drop i).flatten.length := (List.getElem?_eq_some_iff.1 hu).1
  have hfl := flatten_len (css := css.drop i) (sz := sz) (fun c hc => h.1 c (List.mem_of_mem_drop hc))
  rw [hfl, List.length_drop] at hlt
  by_cases hi : i ≤ css.length
  case neg => rw [show css.length - i = 0 by omega] at hlt; simp at hlt
  have hsum : i * sz + (css.length - i) * sz = css.length * sz := by rw [← Nat.add_mul]; congr 1; omega
  have e1 : css.flatten[i * sz + j]? = some u := by
    have hsp : css.flatten = (css.take i).flatten ++ (css.drop i).flatten := by rw [← List.flatten_append, List.take_append_drop]
    have hl : (css.take i).flatten.length = i * sz := by
      rw [flatten_len (sz := sz) (fun c hc => h.1 c (List.mem_of_mem_take hc)), List.length_take, Nat.min_eq_left hi]
    rw [hsp, List.getElem?_append_right (by omega), hl, Nat.add_sub_cancel_left]
    exact hu
  rw [← ht, List.getElem?_take_of_lt (by omega)] at e1
  rw [← e1]
  simp
theorem Sg.cell {g n cap : Nat} (h : Sg w E sz (.slice (some ⟨g, 0, none⟩) n cap) css) {i : Nat} {c : List Value} (hi : css[i]? = some c) {k : Nat} (hk : k < sz) : w.cell? ⟨g, i * sz + k, none⟩ = c[k]? := by
  have hlt : i < css.length := (List.getElem?_eq_some_iff.1 hi).1
  have hcl : c.length = sz := h.1 c (List.mem_of_getElem? hi)
  have h1 : (css.drop i).flatten[k]? = some (c[k]'(by omega)) := by
    have h0 : css.drop i = c :: css.drop (i + 1) := by
      rw [List.drop_eq_getElem_cons hlt, (List.getElem?_eq_some_iff.1 hi).2]
    rw [h0, List.flatten_cons, List.getElem?_append_left (by omega), List.getElem?_eq_getElem (by omega)]
  have h2 := h.cells i k _ h1
  have hadd : (⟨g, i * sz, none⟩ : Addr).add k = ⟨g, i * sz + k, none⟩ := by unfold Addr.add; split <;> simp_all
  rw [hadd] at h2
  rw [h2, List.getElem?_eq_getElem (by omega)]
theorem Sg.frozen {g n cap : Nat} (h : Sg w E sz (.slice (some ⟨g, 0, none⟩) n cap) css) (j : Nat) : w.frozen? ⟨g, j, none⟩ = false := by
  obtain ⟨cur, hg, _⟩ := h.row
  simp [World.frozen?, hg]
theorem Sg.setCell {g n cap : Nat} (h : Sg w E sz (.slice (some ⟨g, 0, none⟩) n cap) css) {i : Nat} {c : List Value} (hi : css[i]? = some c) {k : Nat} (hk : k < sz) (u : Value) :
    Sg (w.setCell ⟨g, i * sz + k, none⟩ u) E sz (.slice (some ⟨g, 0, none⟩) n cap) (css.set i (c.set k u)) := by
  obtain ⟨cur, hg, rfl, hc, hm, hs, ht⟩ := h.row
  have hlt : i < css.length := (List.getElem?_eq_some_iff.1 hi).1
  have hcl : c.length = sz := h.1 c (by rw [← (List.getElem?_eq_some_iff.1 hi).2]; exact List.getElem_mem ..)
  refine ⟨fun d hd => ?_, .inr ⟨g, cap, cur.setIfInBounds (i * sz + k) u, by rw [List.length_set], ?_, by rw [List.length_set]; exact hc, hm, by simpa using hs, ?_⟩⟩
  · rcases List.mem_or_eq_of_mem_set hd with hd | rfl
    · exact h.1 d hd
    · simpa using hcl
  · simp [World.setCell, Array.getElem?_modify, hg]
  · rw [List.length_set, flatten_setk h.1 hi hk, ← ht]
    simp only [Array.toList_setIfInBounds]
    rw [List.take_set]
end

section
variable {P : Program} {w : World} {ops : Array Oper} {rest : List Oper} {o : Oper} {a : Act} {Q : Exit → Act → World → Prop}

end

end Go.Proofs.YtdchmelgaljpfaaGreat
