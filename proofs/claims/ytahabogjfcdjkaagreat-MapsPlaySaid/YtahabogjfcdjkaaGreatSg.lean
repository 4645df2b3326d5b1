import Derived.Test.YtahabogjfcdjkaaGreatSl
import Derived.Laws.CopyOwn
set_option linter.unusedSimpArgs false
set_option linter.unusedVariables false
namespace Go.Proofs.YtahabogjfcdjkaaGreat
open Go.RowKit

/-! ### a slice at the head of a row, whatever stands behind it -/
def Sg (w : World) (E sz : Nat) (v : Value) (css : List (List Value)) : Prop := (∀ c ∈ css, c.length = sz) ∧
  ((v = .slice none 0 0 ∧ css = []) ∨ ∃ g cap cur, v = .slice (some ⟨g, 0, none⟩) css.length cap ∧ w.heap[g]? = some (.cells cur E (0, 0)) ∧ css.length ≤ cap ∧ cap ≤ maxLen ∧ cap * sz ≤ cur.size ∧ cur.toList.take (css.length * sz) = css.flatten)

section
variable {w w' : World} {E sz : Nat} {v : Value} {css : List (List Value)}
theorem Sl.sg (h : Sl w E sz v css) : Sg w E sz v css := by
  refine ⟨h.1, ?_⟩
  rcases h.2.2 with ⟨hv, hn⟩ | ⟨g, cap, cur, hv, _, hg, hc, hm, hs, ht⟩
  · exact .inl ⟨hv, List.eq_nil_of_length_eq_zero hn⟩
  · exact .inr ⟨g, cap, cur, hv, hg, hc, hm, by omega, ht⟩
theorem Sg.nil (w : World) (E sz : Nat) : Sg w E sz (.slice none 0 0) [] := (Sl.nil w E sz).sg
theorem Sg.shape (h : Sg w E sz v css) : (v = .slice none 0 0 ∧ css = []) ∨ ∃ g cap, v = .slice (some ⟨g, 0, none⟩) css.length cap ∧ css.length ≤ cap ∧ g < w.heap.size := by
  rcases h.2 with h | ⟨g, cap, cur, hv, hg, hc, _⟩
  · exact .inl h
  · exact .inr ⟨g, cap, hv, hc, (Array.getElem?_eq_some_iff.1 hg).1⟩
theorem Sg.some_ (h : Sg w E sz v css) (hn : 0 < css.length) : ∃ g cap, v = .slice (some ⟨g, 0, none⟩) css.length cap ∧ css.length ≤ cap ∧ g < w.heap.size := by
  rcases h.shape with ⟨_, rfl⟩ | h
  · simp at hn
  · exact h
theorem Sg.len {A : Option Addr} {n c : Nat} (h : Sg w E sz (.slice A n c) css) : n = css.length := by
  rcases h.shape with ⟨hv, rfl⟩ | ⟨g, cap, hv, _⟩
  · simp at hv; simp [hv]
  · simp at hv; exact hv.2.1
theorem Sg.any (h : Sg w E sz v css) : ∃ A cap, v = .slice A css.length cap := by
  rcases h.shape with ⟨rfl, rfl⟩ | ⟨g, cap, rfl, _⟩
  · exact ⟨_, _, rfl⟩
  · exact ⟨_, _, rfl⟩
theorem Sg.lt (h : Sg w E sz v css) : ∀ g, v.ownBlock = some g → g < w.heap.size := fun g hg => by
  rcases h.shape with ⟨rfl, _⟩ | ⟨g', cap, rfl, _, hlt⟩
  · simp [Value.ownBlock] at hg
  · simp only [Value.ownBlock, Option.some.injEq] at hg; omega
theorem Sg.kept {F : Nat → Prop} (hk : Kept F w w') (h : Sg w E sz v css) (hF : ∀ g, v.ownBlock = some g → ¬ F g) : Sg w' E sz v css := by
  refine ⟨h.1, ?_⟩
  rcases h.2 with h1 | ⟨g, cap, cur, hv, hg, r⟩
  · exact .inl h1
  · exact .inr ⟨g, cap, cur, hv, hk.heap (hF g (by rw [hv]; rfl)) hg, r⟩
theorem Sg.row {g n cap : Nat} (h : Sg w E sz (.slice (some ⟨g, 0, none⟩) n cap) css) : ∃ cur, w.heap[g]? = some (.cells cur E (0, 0)) ∧ n = css.length ∧ n ≤ cap ∧ cap ≤ maxLen ∧ cap * sz ≤ cur.size ∧ cur.toList.take (css.length * sz) = css.flatten := by
  rcases h.2 with ⟨hv, _⟩ | ⟨g', cap', cur, hv, r1, r2, r3, r4, r5⟩
  · simp at hv
  · simp only [Value.slice.injEq, Option.some.injEq, Addr.mk.injEq, and_true, true_and] at hv
    obtain ⟨rfl, rfl, rfl⟩ := hv
    exact ⟨cur, r1, rfl, r2, r3, r4, r5⟩
/-- the cells of the elements from i on -/
theorem Sg.cells {g n cap : Nat} (h : Sg w E sz (.slice (some ⟨g, 0, none⟩) n cap) css) (i : Nat) : ∀ j u, (css.drop i).flatten[j]? = some u → w.cell? ((⟨g, i * sz, none⟩ : Addr).add j) = some u := by
  obtain ⟨cur, hg, rfl, hc, hm, hs, ht⟩ := h.row
  intro j u hu
  have hadd : (⟨g, i * sz, none⟩ : Addr).add j = ⟨g, i * sz + j, none⟩ := by unfold Addr.add; split <;> simp_all
  rw [hadd, cell_of_row w g (i * sz + j) cur E (0, 0) hg]
  have hlt : j < (css.drop i).flatten.length := (List.getElem?_eq_some_iff.1 hu).1
  have hfl := flatten_len (css := css.drop i) (sz := sz) (fun c hc => h.1 c (List.mem_of_mem_drop hc))
  rw [hfl, List.length_drop] at hlt
  by_cases hi : i ≤ css.length
  case neg => rw [show css.length - i = 0 by omega] at hlt; simp at hlt
  have hsum : i * sz + (css.length - i) * sz = css.length * sz := by rw [← Nat.add_mul]; congr 1; omega
  have e1 : css.flatten[i * sz + j]? = some u := by
    have hsp : css.flatten = (css.take i).flatten ++ (css.drop i).flatten := by rw [← List.flatten_append, List.take_append_drop]
    have hl : (css.take i).flatten.length = i * sz := by
      rw [flatten_len (sz := sz) (fun c hc => h.1 c (List.mem_of_mem_take hc)), List.length_take, Nat.min_eq_left hi]
    rw [hsp, List.getElem?_append_right (by omega), hl, Nat.add_sub_cancel_left]
    exact hu
  rw [← ht, List.getElem?_take_of_lt (by omega)] at e1
  rw [← e1]
  simp
theorem Sg.cell {g n cap : Nat} (h : Sg w E sz (.slice (some ⟨g, 0, none⟩) n cap) css) {i : Nat} {c : List Value} (hi : css[i]? = some c) {k : Nat} (hk : k < sz) : w.cell? ⟨g, i * sz + k, none⟩ = c[k]? := by
  have hlt : i < css.length := (List.getElem?_eq_some_iff.1 hi).1
  have hcl : c.length = sz := h.1 c (List.mem_of_getElem? hi)
  have h1 : (css.drop i).flatten[k]? = some (c[k]'(by omega)) := by
    have h0 : css.drop i = c :: css.drop (i + 1) := by
      rw [List.drop_eq_getElem_cons hlt, (List.getElem?_eq_some_iff.1 hi).2]
    rw [h0, List.flatten_cons, List.getElem?_append_left (by omega), List.getElem?_eq_getElem (by omega)]
  have h2 := h.cells i k _ h1
  have hadd : (⟨g, i * sz, none⟩ : Addr).add k = ⟨g, i * sz + k, none⟩ := by unfold Addr.add; split <;> simp_all
  rw [hadd] at h2
  rw [h2, List.getElem?_eq_getElem (by omega)]
theorem Sg.frozen {g n cap : Nat} (h : Sg w E sz (.slice (some ⟨g, 0, none⟩) n cap) css) (j : Nat) : w.frozen? ⟨g, j, none⟩ = false := by
  obtain ⟨cur, hg, _⟩ := h.row
  simp [World.frozen?, hg]
theorem Sg.setCell {g n cap : Nat} (h : Sg w E sz (.slice (some ⟨g, 0, none⟩) n cap) css) {i : Nat} {c : List Value} (hi : css[i]? = some c) {k : Nat} (hk : k < sz) (u : Value) :
    Sg (w.setCell ⟨g, i * sz + k, none⟩ u) E sz (.slice (some ⟨g, 0, none⟩) n cap) (css.set i (c.set k u)) := by
  obtain ⟨cur, hg, rfl, hc, hm, hs, ht⟩ := h.row
  have hlt : i < css.length := (List.getElem?_eq_some_iff.1 hi).1
  have hcl : c.length = sz := h.1 c (by rw [← (List.getElem?_eq_some_iff.1 hi).2]; exact List.getElem_mem ..)
  refine ⟨fun d hd => ?_, .inr ⟨g, cap, cur.setIfInBounds (i * sz + k) u, by rw [List.length_set], ?_, by rw [List.length_set]; exact hc, hm, by simpa using hs, ?_⟩⟩
  · rcases List.mem_or_eq_of_mem_set hd with hd | rfl
    · exact h.1 d hd
    · simpa using hcl
  · simp [World.setCell, Array.getElem?_modify, hg]
  · rw [List.length_set, flatten_setk h.1 hi hk, ← ht]
    simp only [Array.toList_setIfInBounds]
    rw [List.take_set]
end

section
variable {P : Program} {w : World} {ops : Array Oper} {rest : List Oper} {o : Oper} {a : Act} {Q : Exit → Act → World → Prop}

theorem grownSl {E sz : Nat} (z : Value) (hzs : z.cells.size = sz) (w : World) (css : List (List Value)) (h1 : ∀ c ∈ css, c.length = sz) (need old : Nat) (hn : need = css.length) (hm : need ≤ maxLen) (xs ys : List Value) (hx : xs ++ ys = css.flatten) :
    Sl (w.drew.alloc (.cells (xs.toArray ++ ys.toArray ++ Builtin.zeroCells z.cells (grownCap w need old E - need)) E)) E sz (.slice (some ⟨w.heap.size, 0, none⟩) need (grownCap w need old E)) css := by
  subst hn
  have hfl := flatten_len h1
  have hge := grownCap_ge w css.length old E
  have hcm := grownCap_le_maxLen w css.length old E hm
  refine ⟨h1, hfl, .inr ⟨w.heap.size, _, _, rfl, Nat.zero_le _, heap_alloc_new w.drew _, hge, hcm, ?_, ?_⟩⟩
  · have hl2 : xs.length + ys.length = css.length * sz := by rw [← List.length_append, hx, hfl]
    simp only [Array.size_append, List.size_toArray, size_zeroCells, hzs]
    rw [hl2, ← Nat.add_mul]
    congr 1
    omega
  · simp only [Array.toList_append, List.append_assoc]
    rw [← List.append_assoc, hx, ← hfl]
    exact List.take_left

/-- 's = append(s, x)', behind the making of x's own row -/
theorem wpList_pushG (hgd : o.guard = none) (s x : Operand) (t : TypeId) (ho : o.op = .call { callee := .builtin .append, args := #[s, x], argTypes := #[t, t] })
    {E sz bytes : Nat} {i0 : TypeInfo} {z : Value} (ht : P.underlying t = some (.slice E)) (hi : P.info? E = some i0) (hz : i0.zero = some z) (hsz : i0.size = sz) (hby : i0.bytes = bytes) (hzs : z.cells.size = sz) (hpos : 0 < sz)
    (v : Value) (css : List (List Value)) (c : List Value) (hs : a.eval s = v) (hx : a.eval x = .slice (some ⟨w.heap.size, 0, none⟩) 1 1)
    (h : Sg w E sz v css) (hc : c.length = sz) (h1 : ∀ u ∈ c, u.oneCell' = true) (hlen : css.length < 1073741824) (hb : bytes ≤ 65536)
    (hK : ∀ g cap w', Sg w' E sz (.slice (some ⟨g, 0, none⟩) (css.length + 1) cap) (css ++ [c]) → Kept (fun k => v.ownBlock = some k) w w' → (v.ownBlock = some g ∨ w.heap.size ≤ g) → wpList P ops Q rest (a.put o.dst (.slice (some ⟨g, 0, none⟩) (css.length + 1) cap)) w') :
    wpList P ops Q (o :: rest) a (w.alloc (.cells c.toArray E)) := by
  subst hsz
  subst hby
  have hbl : (w.alloc (.cells c.toArray E)).heap[w.heap.size]? = some (.cells c.toArray E (0, 0)) := heap_alloc_new w _
  have hnews : ∀ j u, c[j]? = some u → (w.alloc (.cells c.toArray E)).cell? ((⟨w.heap.size, 0, none⟩ : Addr).add j) = some u := fun j u hu => World.news_of_block hbl j u (by simpa using hu)
  have hall : ∀ d ∈ css ++ [c], d.length = i0.size := fun d hd => by
    rcases List.mem_append.1 hd with hd | hd
    · exact h.1 d hd
    · rw [List.mem_singleton.1 hd]; exact hc
  have hbt : (css.length + 1) * i0.bytes ≤ 140737488355328 := by
    calc (css.length + 1) * i0.bytes ≤ 1073741824 * 65536 := Nat.mul_le_mul (by omega) hb
      _ ≤ 140737488355328 := by omega
  rcases h.shape with ⟨rfl, rfl⟩ | ⟨g, cap, rfl, hcap, hglt⟩
  · refine wpList_push hgd s x t ho ht hi hz rfl rfl hzs hpos _ [] c hs hx (Sl.nil _ _ _) hc h1 hlen hb fun g cap w' h2 h3 h4 => hK g cap w' h2.sg h3 h4
  · obtain ⟨cur, hg, -, hnc, hcm, hcs, htk⟩ := h.row
    have hg2 : (w.alloc (.cells c.toArray E)).heap[g]? = some (.cells cur E (0, 0)) := (Below.heap_alloc w _ g hglt).trans hg
    have hfl := flatten_len h.1
    refine wpList_plain hgd fun K hKK => ?_
    by_cases hroom : css.length + 1 ≤ cap
    · have hfit : css.length * i0.size + c.length ≤ cur.size := by
        rw [hc]
        calc css.length * i0.size + i0.size = (css.length + 1) * i0.size := by rw [Nat.add_mul]; omega
          _ ≤ cap * i0.size := Nat.mul_le_mul_right _ hroom
          _ ≤ cur.size := hcs
      have hr := run_append_room (P := P) (w.alloc (.cells c.toArray E)) t o.type E i0 ht hi g css.length cap cur hg2 ⟨w.heap.size, 0, none⟩ 1 1 c (by rw [hc]; omega) hnews h1 hroom hfit
      unfold Oper.wp
      simp [execOp, ho, resolve, invoke, builtin, hs, hx, hr, Result.andThen]
      refine hKK _ _ (hK g cap _ ⟨hall, .inr ⟨g, cap, _, by simp, setRow_heap _ g cur _ E _ hg2, by simpa using hroom, hcm, ?_, ?_⟩⟩ ⟨rfl, rfl, rfl, by simp, fun k hk hne => ?_⟩ (.inl rfl))
      · simp only [List.size_toArray, List.length_append, List.length_take, List.length_drop, Array.length_toList]
        omega
      · rw [List.flatten_append, htk]
        have e : ((css ++ [c]).length * i0.size) = (css.flatten ++ c).length := by simp only [List.length_append, hfl, hc, List.length_singleton, Nat.add_mul]; omega
        have e2 : [c].flatten = c := by simp
        rw [e, e2, ← List.append_assoc]
        exact List.take_left
      · rw [setRow_other _ g k _ (fun e => hne (by simp [Value.ownBlock, e]))]
        exact Below.heap_alloc w _ k hk
    · have holds : ∀ j u, css.flatten[j]? = some u → (w.alloc (.cells c.toArray E)).cell? ((⟨g, 0, none⟩ : Addr).add j) = some u := fun j u hu => by
        have := ((h.kept (F := fun _ => False) (Kept.alloc (Kept.refl _ w) (.cells c.toArray E)) (fun _ _ h => h)).cells 0) j u (by simpa using hu)
        simpa using this
      have hr := run_append_grow (P := P) (w.alloc (.cells c.toArray E)) t o.type E i0 z ht hi hz ⟨g, 0, none⟩ css.length cap css.flatten hfl holds ⟨w.heap.size, 0, none⟩ 1 1 c (by rw [hc]; omega) hnews (by omega) (by omega) (growslice_fits (by omega) hbt)
      have hsl := grownSl (E := E) z hzs (w.alloc (.cells c.toArray E)) (css ++ [c]) hall (css.length + 1) cap (by simp) (by unfold maxLen; omega) css.flatten c (by simp)
      unfold Oper.wp
      simp [execOp, ho, resolve, invoke, builtin, hs, hx, hr, Result.andThen]
      refine hKK _ _ (hK _ _ _ (by simpa using hsl.sg) (((Kept.alloc (Kept.refl _ w) _).drew).alloc _) (.inr (by simp)))

/-- 's = append(s[:i:i], s[i+1:]...)' -/
theorem wpList_cutG (hgd : o.guard = none) (s x : Operand) (t : TypeId) (ho : o.op = .call { callee := .builtin .append, args := #[s, x], argTypes := #[t, t] })
    {E sz bytes : Nat} {i0 : TypeInfo} {z : Value} (ht : P.underlying t = some (.slice E)) (hi : P.info? E = some i0) (hz : i0.zero = some z) (hsz : i0.size = sz) (hby : i0.bytes = bytes) (hzs : z.cells.size = sz) (hpos : 0 < sz)
    (g n cap i : Nat) (css : List (List Value)) (ad : Addr) (c2 : Nat) (hs : a.eval s = .slice (some ⟨g, 0, none⟩) i i) (hx : a.eval x = .slice (some ad) (n - (i + 1)) c2) (had : i + 1 < n → ad = ⟨g, (i + 1) * sz, none⟩)
    (h : Sg w E sz (.slice (some ⟨g, 0, none⟩) n cap) css) (hin : i < n) (hlen : css.length < 1073741824) (hb : bytes ≤ 65536)
    (hK : ∀ g' cap' w', Sg w' E sz (.slice (some ⟨g', 0, none⟩) (n - 1) cap') (css.take i ++ css.drop (i + 1)) → Kept (fun _ => False) w w' → (g' = g ∨ w.heap.size ≤ g') → wpList P ops Q rest (a.put o.dst (.slice (some ⟨g', 0, none⟩) (n - 1) cap')) w') :
    wpList P ops Q (o :: rest) a w := by
  subst hsz
  subst hby
  obtain ⟨cur, hg, rfl, hnc, hcm, hcs, htk⟩ := h.row
  have hall : ∀ d ∈ css.take i ++ css.drop (i + 1), d.length = i0.size := fun d hd => by
    rcases List.mem_append.1 hd with hd | hd
    · exact h.1 d (List.mem_of_mem_take hd)
    · exact h.1 d (List.mem_of_mem_drop hd)
  have hl1 := flatten_len (css := css.take i) (sz := i0.size) (fun d hd => h.1 d (List.mem_of_mem_take hd))
  have hl2 := flatten_len (css := css.drop (i + 1)) (sz := i0.size) (fun d hd => h.1 d (List.mem_of_mem_drop hd))
  rw [List.length_take, Nat.min_eq_left (by omega)] at hl1
  rw [List.length_drop] at hl2
  have hll : (css.take i ++ css.drop (i + 1)).length = css.length - 1 := by simp; omega
  refine wpList_plain hgd fun K hKK => ?_
  by_cases hend : i + 1 < css.length
  · obtain rfl := had hend
    have holds : ∀ j u, (css.take i).flatten[j]? = some u → w.cell? ((⟨g, 0, none⟩ : Addr).add j) = some u := fun j u hu => by
      have hsp : css.flatten = (css.take i).flatten ++ (css.drop i).flatten := by rw [← List.flatten_append, List.take_append_drop]
      have hjl : j < (css.take i).flatten.length := (List.getElem?_eq_some_iff.1 hu).1
      have := h.cells 0 j u (by rw [List.drop_zero, hsp, List.getElem?_append_left hjl]; exact hu)
      simpa using this
    have hbt : (i + (css.length - (i + 1))) * i0.bytes ≤ 140737488355328 := by
      calc (i + (css.length - (i + 1))) * i0.bytes ≤ 1073741824 * 65536 := Nat.mul_le_mul (by omega) hb
        _ ≤ 140737488355328 := by omega
    have hr := run_append_grow (P := P) w t o.type E i0 z ht hi hz ⟨g, 0, none⟩ i i (css.take i).flatten hl1 holds ⟨g, (i + 1) * i0.size, none⟩ (css.length - (i + 1)) c2 (css.drop (i + 1)).flatten hl2 (h.cells (i + 1)) (by omega) (by omega) (growslice_fits (by omega) hbt)
    have hsl := grownSl (E := E) z hzs w (css.take i ++ css.drop (i + 1)) hall (i + (css.length - (i + 1))) i (by rw [hll]; omega) (by unfold maxLen; omega) (css.take i).flatten (css.drop (i + 1)).flatten (by simp)
    rw [show i + (css.length - (i + 1)) = css.length - 1 by omega] at hr hsl
    unfold Oper.wp
    simp [execOp, ho, resolve, invoke, builtin, hs, hx, hr, Result.andThen]
    exact hKK _ _ (hK _ _ _ (by simpa using hsl.sg) ((Kept.drew (Kept.refl _ w)).alloc _) (.inr (Nat.le_refl _)))
  · have hi1 : css.length - (i + 1) = 0 := by omega
    rw [hi1] at hx
    have hr : (Builtin.append_ #[t, t] o.type #[.slice (some ⟨g, 0, none⟩) i i, .slice (some ad) 0 c2]).run P w = .ok (.slice (some ⟨g, 0, none⟩) i i) w := by
      simp [Builtin.append_, run_underlying ht, sizeOf, typeInfo, hi, Builtin.lenOf, Builtin.firstCells, loadCells, loadCellsFrom, storeCells]
    unfold Oper.wp
    simp [execOp, ho, resolve, invoke, builtin, hs, hx, hr, Result.andThen]
    refine hKK _ _ ?_
    have := hK g i w ⟨hall, .inr ⟨g, i, cur, by rw [hll], hg, by rw [hll]; omega, by omega, Nat.le_trans (Nat.mul_le_mul_right _ (by omega)) hcs, ?_⟩⟩ (Kept.refl _ w) (.inl rfl)
    · rw [show css.length - 1 = i by omega] at this
      exact this
    · rw [hll, show css.length - 1 = i by omega, List.drop_of_length_le (by omega), List.append_nil]
      have hsp : css.flatten = (css.take i).flatten ++ (css.drop i).flatten := by rw [← List.flatten_append, List.take_append_drop]
      have e : cur.toList.take (i * i0.size) = (cur.toList.take (css.length * i0.size)).take (i * i0.size) := by
        rw [List.take_take, Nat.min_eq_left (Nat.mul_le_mul_right _ (by omega))]
      rw [e, htk, hsp, ← hl1]
      exact List.take_left

/-- 'copy(s[k+1:], s[k:])' -/
theorem wpList_shift (hgd : o.guard = none) (d s : Operand) (t : TypeId) (ho : o.op = .call { callee := .builtin .copy, args := #[d, s], argTypes := #[t, t] })
    {E sz : Nat} {i0 : TypeInfo} (ht : P.underlying t = some (.slice E)) (hi : P.info? E = some i0) (hsz : i0.size = sz) (hpos : 0 < sz)
    (g n cap k : Nat) (css : List (List Value)) (ad : Addr) (c1 c2 : Nat) (hd : a.eval d = .slice (some ad) (n - (k + 1)) c1) (had : k + 1 < n → ad = ⟨g, (k + 1) * sz, none⟩) (hs : a.eval s = .slice (some ⟨g, k * sz, none⟩) (n - k) c2)
    (h : Sl w E sz (.slice (some ⟨g, 0, none⟩) n cap) css) (hone : ∀ c ∈ css, ∀ y ∈ c, y.oneCell' = true) (hk : k < n)
    (hK : ∀ w', Sl w' E sz (.slice (some ⟨g, 0, none⟩) n cap) (css.take (k + 1) ++ (css.drop k).take (n - (k + 1))) → Kept (fun x => x = g) w w' → wpList P ops Q rest (a.put o.dst (.int .i64 ((n - (k + 1) : Nat) : Int))) w') :
    wpList P ops Q (o :: rest) a w := by
  subst hsz
  obtain ⟨cur, hg, rfl, hnc, hcm, hcs, htk⟩ := h.sg.row
  have hcse : cur.size = cap * i0.size := by
    rcases h.2.2 with ⟨hv, _⟩ | ⟨g', cap', cur', hv, _, hg', _, _, hs', _⟩
    · simp at hv
    · simp only [Value.slice.injEq, Option.some.injEq, Addr.mk.injEq, and_true, true_and] at hv
      obtain ⟨rfl, rfl⟩ := hv
      rw [hg] at hg'
      cases hg'
      exact hs'
  generalize hm : css.length - (k + 1) = m at *
  have hmn : Nat.min (css.length - k) m = m := Nat.min_eq_right (by omega)
  have hcl : ∀ c ∈ (css.drop k).take m, c.length = i0.size := fun c hc => h.1 c (List.mem_of_mem_drop (List.mem_of_mem_take hc))
  have hml : ((css.drop k).take m).length = m := by simp; omega
  have hfl : ((css.drop k).take m).flatten.length = m * i0.size := by rw [flatten_len hcl, hml]
  have hall : ∀ c ∈ css.take (k + 1) ++ (css.drop k).take m, c.length = i0.size := fun c hc => by
    rcases List.mem_append.1 hc with hc | hc
    · exact h.1 c (List.mem_of_mem_take hc)
    · exact hcl c hc
  have hll : (css.take (k + 1) ++ (css.drop k).take m).length = css.length := by simp; omega
  refine wpList_plain hgd fun K hKK => ?_
  have hsp : (css.drop k).flatten = ((css.drop k).take m).flatten ++ ((css.drop k).drop m).flatten := by rw [← List.flatten_append, List.take_append_drop]
  have hsrc : ∀ j u, ((css.drop k).take m).flatten[j]? = some u → w.cell? ((⟨g, k * i0.size, none⟩ : Addr).add j) = some u := fun j u hu =>
    h.sg.cells k j u (by rw [hsp, List.getElem?_append_left (List.getElem?_eq_some_iff.1 hu).1]; exact hu)
  have hlo := run_loadCells_list (P := P) w ⟨g, k * i0.size, none⟩ ((css.drop k).take m).flatten hsrc
  rw [hfl] at hlo
  by_cases hm0 : m = 0
  · subst hm0
    have hr : (Builtin.copy_ #[t, t] o.type #[.slice (some ad) 0 c1, .slice (some ⟨g, k * i0.size, none⟩) (css.length - k) c2]).run P w = .ok (.int .i64 0) w := by
      simp [Builtin.copy_, run_underlying ht, sizeOf, typeInfo, hi, Builtin.lenOf, Builtin.firstCells, loadCells, loadCellsFrom, storeCells, goInt]
    unfold Oper.wp
    simp [execOp, ho, resolve, invoke, builtin, hs, hd, hr, Result.andThen]
    have := hK w ⟨hall, by rw [hll]; have := h.2; rw [List.take_zero, List.append_nil, List.take_of_length_le (by omega)]; exact this⟩ (Kept.refl _ w)
    exact hKK _ _ (by simpa using this)
  · obtain rfl := had (by omega)
    have hfit : (k + 1) * i0.size + ((css.drop k).take m).flatten.length ≤ cur.size := by
      rw [hfl, ← Nat.add_mul, hcse]
      exact Nat.mul_le_mul_right _ (by omega)
    have hst := run_storeCells_at P g ((k + 1) * i0.size) E ((css.drop k).take m).flatten 0 cur w hg (by simpa using hfit) (fun y hy => by
      obtain ⟨c, hc, hyc⟩ := List.mem_flatten.1 hy
      exact hone c (List.mem_of_mem_drop (List.mem_of_mem_take hc)) y hyc)
    simp only [Nat.add_zero] at hst
    have hr : (Builtin.copy_ #[t, t] o.type #[.slice (some ⟨g, (k + 1) * i0.size, none⟩) m c1, .slice (some ⟨g, k * i0.size, none⟩) (css.length - k) c2]).run P w = .ok (.int .i64 m) (w.setRow g (cur.toList.take ((k + 1) * i0.size) ++ ((css.drop k).take m).flatten ++ cur.toList.drop ((k + 1) * i0.size + ((css.drop k).take m).flatten.length)).toArray) := by
      simp [Builtin.copy_, run_underlying ht, sizeOf, typeInfo, hi, Builtin.lenOf, Builtin.firstCells, hmn, hlo, hst, goInt]
    unfold Oper.wp
    simp [execOp, ho, resolve, invoke, builtin, hs, hd, hr, Result.andThen]
    refine hKK _ _ ?_
    have hpre : cur.toList.take ((k + 1) * i0.size) = (css.take (k + 1)).flatten := by
      have e : cur.toList.take ((k + 1) * i0.size) = (cur.toList.take (css.length * i0.size)).take ((k + 1) * i0.size) := by
        rw [List.take_take, Nat.min_eq_left (Nat.mul_le_mul_right _ (by omega))]
      have hsp2 : css.flatten = (css.take (k + 1)).flatten ++ (css.drop (k + 1)).flatten := by rw [← List.flatten_append, List.take_append_drop]
      have hl3 := flatten_len (css := css.take (k + 1)) (sz := i0.size) (fun c hc => h.1 c (List.mem_of_mem_take hc))
      rw [List.length_take, Nat.min_eq_left (by omega)] at hl3
      rw [e, htk, hsp2, ← hl3]
      exact List.take_left
    have hres := hK (w.setRow g (cur.toList.take ((k + 1) * i0.size) ++ ((css.drop k).take m).flatten ++ cur.toList.drop ((k + 1) * i0.size + ((css.drop k).take m).flatten.length)).toArray)
      ⟨hall, by rw [hll, flatten_len hall, hll], .inr ⟨g, cap, _, by rw [hll], Nat.zero_le _, setRow_heap _ g cur _ E _ hg, by rw [hll]; exact hnc, hcm, ?_, ?_⟩⟩ ⟨rfl, rfl, rfl, by simp, fun x hx hne => setRow_other _ g x _ hne⟩
    · simpa using hres
    · simp only [List.size_toArray, List.length_append, List.length_take, List.length_drop, Array.length_toList]
      omega
    · rw [hll, hpre, ← List.flatten_append]
      have e : css.length * i0.size = (css.take (k + 1) ++ (css.drop k).take m).flatten.length := by rw [flatten_len hall, hll]
      rw [e]
      exact List.take_left
end

end Go.Proofs.YtahabogjfcdjkaaGreat
