import Derived.Test.YtmgdjiplpfeoiaaDoorTq
set_option linter.unusedSimpArgs false
set_option linter.unusedVariables false
namespace Go.Proofs.YtmgdjiplpfeoiaaDoor
open Go.RowKit

/-- types in a block of their own -/
theorem Tys.ofBlk {w : World} {g n c : Nat} {cs : Array Value} {l : List Ty} {mvs : List Value} (hb : Blk w g 38 cs) (hn : n = l.length) (hc : n ≤ c) (hl : mvs.length = l.length) (hcs : cs.toList = (List.zipWith (fun t v => (tyVals t v).toList) l mvs).flatten) (hm : ∀ (i : Nat) (t : Ty) (v : Value), l[i]? = some t → mvs[i]? = some v → Mbs w v t.mem) : Tys w (.slice (some ⟨g, 0, none⟩) n c) l := by
  subst hn
  refine ⟨_, _, rfl, hc, fun i t ht => ?_⟩
  have hi := (List.getElem?_eq_some_iff.1 ht).1
  have hv : mvs[i]? = some mvs[i] := List.getElem?_eq_getElem (by omega)
  refine ⟨g, 0, mvs[i], rfl, hb.lt, hm i t _ ht hv, fun k u hu => ?_⟩
  have hz : ∀ d ∈ List.zipWith (fun t v => (tyVals t v).toList) l mvs, d.length = 7 := fun d hd => by
    obtain ⟨j, hj, e⟩ := List.mem_iff_getElem.1 hd
    rw [List.getElem_zipWith] at e
    rw [← e]
    rfl
  have hk : k < 7 := (Array.getElem?_eq_some_iff.1 hu).1
  rw [hb.cell, ← Array.getElem?_toList, hcs, Nat.zero_add, flatten_get hz i k hk, List.getElem?_zipWith, ht, hv]
  simpa using hu
theorem Mbs.ofBlk {w : World} {g n c : Nat} {cs : Array Value} {ms : List Mb} (hb : Blk w g 42 cs) (hn : n = ms.length) (hcs : cs.toList = (ms.map mbCells).flatten) : Mbs w (.slice (some ⟨g, 0, none⟩) n c) ms := by
  subst hn
  refine ⟨_, _, rfl, fun i m hm => ⟨g, 0, rfl, hb.lt, fun k u hu => ?_⟩⟩
  have hz : ∀ d ∈ ms.map mbCells, d.length = 3 := fun d hd => by
    obtain ⟨x, _, rfl⟩ := List.mem_map.1 hd
    rfl
  have hk : k < 3 := (List.getElem?_eq_some_iff.1 hu).1
  rw [hb.cell, ← Array.getElem?_toList, hcs, Nat.zero_add, flatten_get hz i k hk, List.getElem?_map, hm]
  simpa using hu
theorem Mbs.nil (w : World) : Mbs w (.slice none 0 0) [] := ⟨none, 0, rfl, fun i m h => by simp at h⟩

theorem blkNew1 (w : World) (o : Obj) (t : TypeId) (cs : Array Value) : Blk ((w.alloc o).alloc (.cells cs t)) (w.heap.size + 1) t cs := by
  have := Blk.new (w.alloc o) t cs
  rw [alloc_size] at this
  exact this
def pairL : List Ty := [⟨1, [117, 51, 50], 4, false, 0, 0, []⟩, ⟨4, [112, 97, 105, 114], 8, false, 0, 0, [⟨[97], 1, 0⟩, ⟨[98], 1, 32⟩]⟩]
theorem raw_pair : Raw pairL := ⟨by unfold maxLen; decide, by unfold maxLen; decide, by unfold maxLen; decide, by decide⟩

set_option maxHeartbeats 1000000 in
theorem pair_any (w : World) : Calls Tryd.prog 22 #[] w fun e w' => ∃ g, e = .returned (.slice (some ⟨g, 0, none⟩) 2 2) ∧ Tys w' (.slice (some ⟨g, 0, none⟩) pairL.length 2) pairL ∧ Kept (fun _ => False) w w' := by
  go_enter Tryd.func22, Tryd.ntmps22
  go_wp2
  go_ret
  refine ⟨w.heap.size + 1, rfl, ?_, ((Kept.refl _ w).alloc _).alloc _⟩
  refine Tys.ofBlk (mvs := [.slice none 0 0, .slice (some ⟨w.heap.size, 0, none⟩) 2 2]) (blkNew1 w _ _ _) rfl (by decide) rfl rfl ?_
  intro i t v ht hv
  match i, ht, hv with
  | 0, ht, hv => cases ht; cases hv; exact Mbs.nil _
  | 1, ht, hv => cases ht; cases hv; exact Mbs.ofBlk (((Kept.refl (fun _ => False) _).alloc _).blk (fun h => h) (Blk.new w _ _)) rfl rfl
  | n + 2, ht, hv => simp [pairL] at ht

theorem reach_pair {x y : Int} (h : Reach pairL x y) : x = 2 ∧ y = 1 := by
  have hs : ∀ a b : Int, b ∈ succL pairL a → a = 2 ∧ b = 1 := fun a b hb => by
    unfold succL at hb
    cases ht : tyAt pairL a with
    | none => rw [ht] at hb; cases hb
    | some t =>
      rw [ht] at hb
      obtain ⟨i, rfl, hi⟩ := tyAt_get ht
      match i, hi with
      | 0, hi => cases hi; simp [holdsL] at hb
      | 1, hi => cases hi; simp [holdsL] at hb; exact ⟨rfl, hb⟩
      | n + 2, hi => simp [pairL] at hi
  induction h with
  | one h => exact hs _ _ h
  | more h _ ih =>
    have h1 := hs _ _ h
    have := ih.1
    omega
theorem check_pair : checkL pairL = (0, 0) := by
  rw [check_eq (by decide) (by decide)]
  have h1 : firstF (pA pairL) pairL.length = none := by decide
  have h2 : firstF (pR pairL) pairL.length = none := by
    unfold firstF
    rw [List.find?_eq_none]
    intro i _
    unfold pR
    simp only [decide_eq_true_eq]
    intro h
    have := reach_pair h
    omega
  have h3 : firstF (pF pairL) pairL.length = none := by decide
  have h4 : firstF (pL pairL) pairL.length = none := by decide
  rw [h1]
  simp only [h2, h3, h4]
theorem size_pair : sizeR pairL 2 = (8, 0) := by
  have hr : resolveL pairL 2 = (2, 0) := by
    unfold resolveL
    rw [check_pair]
    decide
  unfold sizeR
  rw [hr]
  decide

end Go.Proofs.YtmgdjiplpfeoiaaDoor
