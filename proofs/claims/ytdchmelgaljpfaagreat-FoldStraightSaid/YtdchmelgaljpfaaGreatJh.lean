import Derived.Test.YtdchmelgaljpfaaGreatJa
import Derived.Test.YtdchmelgaljpfaaGreatSf
set_option linter.unusedSimpArgs false
set_option linter.unusedVariables false
namespace Go.Proofs.YtdchmelgaljpfaaGreat
open Go.RowKit Go.Sort

/-! ### slices.Sort and slices.Compact at rows of integers -/
section
variable {α : Type} [Inhabited α] {enc : α → Value} {w : World} {g m : Nat} {os : Array Obj} {d : Array α}
theorem heap_put {cur : Array Value} {e : TypeId} {fr : Nat × Nat} (hb : w.heap[g]? = some (.cells cur e fr)) :
    (grow (putRow enc (Sort.ahead w m) g 0 d) os).heap[g]? = some (.cells (putCells enc 0 d cur) e fr) := by
  have hg : g < w.heap.size := (Array.getElem?_eq_some_iff.1 hb).1
  rw [heap_grow_old _ _ (by simpa using hg)]
  simp [putRow, mapBlock, Sort.ahead, Array.getElem?_modify, hb, onCells]
theorem kept_put : Kept (fun k => k = g) w (grow (putRow enc (Sort.ahead w m) g 0 d) os) := by
  refine ⟨rfl, rfl, rfl, by simp, fun k hk hne => ?_⟩
  rw [heap_grow_old _ _ (by simpa using hk)]
  have : g ≠ k := fun e => hne e.symm
  simp [putRow, mapBlock, Sort.ahead, Array.getElem?_modify, this]
theorem take_put (cur : Array Value) (ts : Array α) (h : ts.size ≤ cur.size) : (putCells enc 0 ts cur).toList.take ts.size = ts.toList.map enc := by
  apply List.ext_getElem?
  intro j
  by_cases hj : j < ts.size
  · rw [List.getElem?_take_of_lt hj, Array.getElem?_toList]
    simp [putCells, hj, show j < cur.size by omega]
  · rw [List.getElem?_take_eq_none (by omega), List.getElem?_eq_none (by simp; omega)]
end
theorem Ints.holds {w : World} {g cap n : Nat} {L : List Int} (h : Ints w (.slice (some ⟨g, 0, none⟩) n cap) L) : Holds (Value.int .i64) w g 0 L.toArray := fun j hj => by
  have hj' : j < L.length := by simpa using hj
  rw [getElem!_pos L.toArray j hj, Nat.zero_add]
  exact ⟨by simpa using Ints.cell h (List.getElem?_eq_getElem hj'), Sl.frozen h _⟩
def sortL (L : List Int) : List Int := L.mergeSort fun x y => decide (x ≤ y)
theorem sortI_any (v : Value) (L : List Int) (w : World) (h : Ints w v L) (hL : L ≠ []) (hlen : L.length < 1099511627) :
    Calls Tryz.prog 109 #[v] w fun e w' => e = .returned (.tuple #[]) ∧ Ints w' v (sortL L) ∧ Kept (fun k => v.ownBlock = some k) w w' := by
  rcases h.2.2 with ⟨_, hn⟩ | ⟨g, cap, cur, rfl, _, hg, hc1, hc2, hc3, hc4⟩
  · exact absurd (List.eq_nil_of_length_eq_zero (by simpa using hn)) hL
  rw [ints_flat, Nat.mul_one, List.length_map] at hc4
  rw [List.length_map] at hc1 h ⊢
  refine (Tryz.slices_Sort_int g 0 cap L w h.holds (Array.getElem?_eq_some_iff.1 hg).1 (by omega)).mono fun e w' ⟨he, n, os, hw⟩ => ⟨he, ?_, ?_⟩
  · rw [hw]
    have hl : (sortL L).length = L.length := List.length_mergeSort _
    refine ⟨fun c hc => by obtain ⟨u, _, rfl⟩ := List.mem_map.1 hc; rfl, ?_⟩
    rw [ints_flat, List.length_map, hl]
    refine ⟨by simp [hl], .inr ⟨g, cap, _, rfl, Nat.zero_le _, heap_put hg, hc1, hc2, by simp [putCells, hc3], ?_⟩⟩
    have := take_put (enc := Value.int .i64) cur (sortL L).toArray (by simp [hl]; omega)
    simp only [List.size_toArray, hl] at this
    rw [Nat.mul_one]
    exact this
  · rw [hw]
    exact kept_put.mono (fun k _ e => by rw [e]; rfl)
theorem compactI_any (v : Value) (L : List Int) (w : World) (h : Ints w v L) (hL : L ≠ []) (hlen : L.length < 1099511627) :
    Calls Tryz.prog 110 #[v] w fun e w' => ∃ v', e = .returned v' ∧ Ints w' v' (Lib.compact L) ∧ Kept (fun k => v.ownBlock = some k) w w' ∧ v'.ownBlock = v.ownBlock := by
  rcases h.2.2 with ⟨_, hn⟩ | ⟨g, cap, cur, rfl, _, hg, hc1, hc2, hc3, hc4⟩
  · exact absurd (List.eq_nil_of_length_eq_zero (by simpa using hn)) hL
  rw [ints_flat, Nat.mul_one, List.length_map] at hc4
  rw [List.length_map] at hc1 h ⊢
  refine (Tryz.slices_Compact_int g 0 cap L w h.holds (by omega) hc1).mono fun e w' ⟨he, n, hw⟩ => ⟨_, he, ?_, ?_, rfl⟩
  · have hcl := Lib.compact_length_le L
    have hw2 : w' = grow (putRow (Value.int .i64) (Sort.ahead w n) g 0 (Lib.compact L ++ List.replicate (L.length - (Lib.compact L).length) 0).toArray) #[] := by rw [hw, grow_empty]
    rw [hw2]
    refine ⟨fun c hc => by obtain ⟨u, _, rfl⟩ := List.mem_map.1 hc; rfl, ?_⟩
    rw [ints_flat, List.length_map]
    refine ⟨by simp, .inr ⟨g, cap, _, rfl, Nat.zero_le _, heap_put hg, by omega, hc2, by simp [putCells, hc3], ?_⟩⟩
    have := take_put (enc := Value.int .i64) cur (Lib.compact L ++ List.replicate (L.length - (Lib.compact L).length) 0).toArray (by simp; omega)
    simp only [List.size_toArray, List.length_append, List.length_replicate] at this
    have h2 := congrArg (List.take (Lib.compact L).length) this
    rw [List.take_take, Nat.min_eq_left (by omega)] at h2
    rw [Nat.mul_one, h2]
    simp
  · have hw2 : w' = grow (putRow (Value.int .i64) (Sort.ahead w n) g 0 (Lib.compact L ++ List.replicate (L.length - (Lib.compact L).length) 0).toArray) #[] := by rw [hw, grow_empty]
    rw [hw2]
    exact kept_put.mono (fun k _ e => by rw [e]; rfl)

/-! ### what that makes: plain -/
theorem compactUpTo_ok {zs : List Int} (hs : zs.Pairwise (· ≤ ·)) : ∀ m, m ≤ zs.length → (Lib.compactUpTo zs.toArray m).Pairwise (· < ·) ∧ (∀ x, x ∈ Lib.compactUpTo zs.toArray m ↔ x ∈ zs.take m) ∧ ∀ x ∈ Lib.compactUpTo zs.toArray m, 0 < m → x ≤ zs.toArray[m - 1]!
  | 0, _ => by simp [Lib.compactUpTo]
  | m + 1, hm => by
    obtain ⟨h1, h2, h3⟩ := compactUpTo_ok hs m (by omega)
    have hml : m < zs.length := by omega
    have hget : zs.toArray[m]! = zs[m] := by rw [getElem!_pos _ m (by simpa using hml)]; simp
    rw [Lib.compactUpTo_succ, Nat.add_sub_cancel, hget]
    have hle : ∀ x ∈ Lib.compactUpTo zs.toArray m, x ≤ zs[m] := fun x hx => by
      obtain ⟨j, hj, e⟩ := List.mem_iff_getElem.1 ((h2 x).1 hx)
      rw [List.length_take] at hj
      rw [List.getElem_take] at e
      rw [← e]
      exact List.pairwise_iff_getElem.1 hs j m (by omega) hml (by omega)
    have htk : zs.take (m + 1) = zs.take m ++ [zs[m]] := by rw [List.take_add_one, List.getElem?_eq_getElem hml]; rfl
    by_cases hk : Lib.keeps zs.toArray m = true
    · rw [if_pos hk]
      refine ⟨?_, fun x => ?_, fun x hx _ => ?_⟩
      · rw [List.pairwise_append]
        refine ⟨h1, by simp, fun x hx y hy => ?_⟩
        rw [List.mem_singleton] at hy
        subst hy
        have hxl := hle x hx
        unfold Lib.keeps at hk
        rw [decide_eq_true_eq] at hk
        rcases hk with rfl | hne
        · rw [h2] at hx; simp at hx
        · rcases Nat.eq_zero_or_pos m with rfl | hmp
          · rw [h2] at hx; simp at hx
          have hx3 := h3 x hx hmp
          have hg2 : zs.toArray[m - 1]! = zs[m - 1] := by rw [getElem!_pos _ (m - 1) (by simp; omega)]; simp
          rw [hget, hg2] at hne
          rw [hg2] at hx3
          have := List.pairwise_iff_getElem.1 hs (m - 1) m (by omega) hml (by omega)
          omega
      · rw [htk, List.mem_append, List.mem_append, h2]
      · rw [List.mem_append, List.mem_singleton] at hx
        rcases hx with hx | rfl
        · exact hle x hx
        · exact Int.le_refl _
    · rw [if_neg hk, List.append_nil]
      have hmp : 0 < m := by
        rcases Nat.eq_zero_or_pos m with rfl | h
        · exact absurd (Lib.keeps_lt_one _ 0 (by omega)) hk
        · exact h
      have heq : zs[m] = zs[m - 1] := by
        have : ¬ (m = 0 ∨ zs.toArray[m]! ≠ zs.toArray[m - 1]!) := fun h => hk (by unfold Lib.keeps; exact decide_eq_true h)
        have hg2 : zs.toArray[m - 1]! = zs[m - 1] := by rw [getElem!_pos _ (m - 1) (by simp; omega)]; simp
        rw [hget, hg2] at this
        by_cases e : zs[m] = zs[m - 1]
        · exact e
        · exact absurd (.inr e) this
      refine ⟨h1, fun x => ?_, fun x hx _ => hle x hx⟩
      rw [htk, List.mem_append, h2, List.mem_singleton]
      constructor
      · exact .inl
      · rintro (h | rfl)
        · exact h
        · rw [heq]
          rw [List.mem_iff_getElem]
          exact ⟨m - 1, by simp; omega, by simp⟩
theorem compact_ok {zs : List Int} (hs : zs.Pairwise (· ≤ ·)) : (Lib.compact zs).Pairwise (· < ·) ∧ ∀ x, x ∈ Lib.compact zs ↔ x ∈ zs := by
  obtain ⟨h1, h2, _⟩ := compactUpTo_ok hs zs.length (Nat.le_refl _)
  rw [List.take_length] at h2
  exact ⟨h1, h2⟩
theorem sortL_ok (L : List Int) : (sortL L).Pairwise (· ≤ ·) ∧ ∀ x, x ∈ sortL L ↔ x ∈ L := by
  refine ⟨?_, fun x => List.mem_mergeSort⟩
  have := List.pairwise_mergeSort (le := fun (x y : Int) => decide (x ≤ y)) (fun a b c h1 h2 => by simp at *; omega) (fun a b => by simp; omega) L
  exact this.imp (fun h => by simpa using h)
/-- two rows that rise and hold the same are the same -/
theorem rising_eq : ∀ {a b : List Int}, a.Pairwise (· < ·) → b.Pairwise (· < ·) → (∀ x, x ∈ a ↔ x ∈ b) → a = b
  | [], [], _, _, _ => rfl
  | [], y :: b, _, _, h => by have := (h y).2 (List.mem_cons_self ..); cases this
  | x :: a, [], _, _, h => by have := (h x).1 (List.mem_cons_self ..); cases this
  | x :: a, y :: b, ha, hb, h => by
    have ha2 := List.pairwise_cons.1 ha
    have hb2 := List.pairwise_cons.1 hb
    have e : x = y := by
      rcases List.mem_cons.1 ((h x).1 (List.mem_cons_self ..)) with e | hx
      · exact e
      · rcases List.mem_cons.1 ((h y).2 (List.mem_cons_self ..)) with e | hy
        · exact e.symm
        · have h1 := hb2.1 x hx
          have h2 := ha2.1 y hy
          omega
    subst e
    congr 1
    refine rising_eq ha2.2 hb2.2 fun z => ⟨fun hz => ?_, fun hz => ?_⟩
    · rcases List.mem_cons.1 ((h z).1 (List.mem_cons_of_mem _ hz)) with rfl | h3
      · exact absurd (ha2.1 _ hz) (by omega)
      · exact h3
    · rcases List.mem_cons.1 ((h z).2 (List.mem_cons_of_mem _ hz)) with rfl | h3
      · exact absurd (hb2.1 _ hz) (by omega)
      · exact h3

end Go.Proofs.YtdchmelgaljpfaaGreat
