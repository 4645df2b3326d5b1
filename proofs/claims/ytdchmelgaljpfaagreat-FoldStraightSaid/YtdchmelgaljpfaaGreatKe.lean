import Derived.Test.YtdchmelgaljpfaaGreatKd
set_option linter.unusedSimpArgs false
set_option linter.unusedVariables false
namespace Go.Proofs.YtdchmelgaljpfaaGreat
open Go.RowKit

/-! ### the document's search -/
structure WtB (l : List In) (B : List Bool) (W : List Int) : Prop where
  len : B.length = l.length
  fromB : ∀ k, B[k]? = some true → Rch l k
  fromW : ∀ j ∈ W, ∃ n : Nat, j = n ∧ B[n]? = some true
  out : ∀ i : Nat, B[i]? = some true → (i : Int) ∈ W ∨ ∀ j ∈ succL l i, ∃ n : Nat, j = n ∧ B[n]? = some true
  zero : B[0]? = some true
structure WtC (l : List In) (B : List Bool) (W : List Int) (k m : Nat) : Prop where
  len : B.length = l.length
  fromB : ∀ k, B[k]? = some true → Rch l k
  fromW : ∀ j ∈ W, ∃ n : Nat, j = n ∧ B[n]? = some true
  out : ∀ i : Nat, B[i]? = some true → (i : Int) ∈ W ∨ (∀ j ∈ succL l i, ∃ n : Nat, j = n ∧ B[n]? = some true) ∨ (i = k ∧ ∀ j ∈ (succL l k).take m, ∃ n : Nat, j = n ∧ B[n]? = some true)
  zero : B[0]? = some true
  at_ : B[k]? = some true
theorem WtB.start {l : List In} (h : 0 < l.length) : WtB l ((List.replicate l.length false).set 0 true) [0] := by
  have hget : ∀ k, ((List.replicate l.length false).set 0 true)[k]? = some true → k = 0 := fun k hk => by
    rw [List.getElem?_set] at hk
    split at hk
    · rename_i e
      exact e.symm
    · rw [List.getElem?_replicate] at hk
      split at hk <;> simp at hk
  have h0 : ((List.replicate l.length false).set 0 true)[0]? = some true := by
    rw [List.getElem?_set, if_pos rfl, if_pos (by rw [List.length_replicate]; exact h)]
  refine ⟨by simp, fun k hk => by rw [hget k hk]; exact Rch.zero, fun j hj => ?_, fun i hi => .inl ?_, h0⟩
  · rw [List.mem_singleton] at hj
    exact ⟨0, by rw [hj]; rfl, h0⟩
  · rw [hget i hi]
    simp
theorem WtB.done {l : List In} {B : List Bool} (h : WtB l B []) : B = rchL l := by
  refine rchL_eq h.len fun k hk => ⟨h.fromB k, fun hr => ?_⟩
  induction hr with
  | zero => exact h.zero
  | step hi hj ih =>
    rename_i i j
    by_cases hil : i < l.length
    · rcases h.out i (ih hil) with e | e
      · cases e
      · obtain ⟨n, e1, e2⟩ := e _ hj
        obtain rfl : _ = n := Int.ofNat_inj.1 e1
        exact e2
    · have : succL l i = [] := by unfold succL; rw [List.getElem?_eq_none (by omega)]
      rw [this] at hj
      cases hj
theorem WtB.pop {l : List In} {B : List Bool} {W : List Int} {k : Nat} (h : WtB l B (W ++ [(k : Int)])) : WtC l B W k 0 where
  len := h.len
  fromB := h.fromB
  fromW j hj := h.fromW j (List.mem_append_left _ hj)
  out i hi := by
    rcases h.out i hi with e | e
    · rcases List.mem_append.1 e with e | e
      · exact .inl e
      · exact .inr (.inr ⟨Int.ofNat_inj.1 (List.mem_singleton.1 e), fun j hj => by simp at hj⟩)
    · exact .inr (.inl e)
  zero := h.zero
  at_ := by
    obtain ⟨n, e, hn⟩ := h.fromW k (by simp)
    obtain rfl : k = n := Int.ofNat_inj.1 e
    exact hn
theorem take_mem {S : List Int} {m : Nat} {t : Int} (hm : S[m]? = some t) {j : Int} (hj : j ∈ S.take (m + 1)) : j ∈ S.take m ∨ j = t := by
  rw [List.take_add_one, hm] at hj
  rcases List.mem_append.1 hj with e | e
  · exact .inl e
  · exact .inr (by simpa using e)
theorem WtC.old {l : List In} {B : List Bool} {W : List Int} {k m n : Nat} (h : WtC l B W k m) (hm : (succL l k)[m]? = some (n : Int)) (hn : B[n]? = some true) : WtC l B W k (m + 1) where
  len := h.len
  fromB := h.fromB
  fromW := h.fromW
  out i hi := by
    rcases h.out i hi with e | e | ⟨e, e2⟩
    · exact .inl e
    · exact .inr (.inl e)
    · refine .inr (.inr ⟨e, fun j hj => ?_⟩)
      rcases take_mem hm hj with e3 | e3
      · exact e2 j e3
      · exact ⟨n, e3, hn⟩
  zero := h.zero
  at_ := h.at_
theorem WtC.new {l : List In} {B : List Bool} {W : List Int} {k m n : Nat} (h : WtC l B W k m) (hm : (succL l k)[m]? = some (n : Int)) (hn : n < l.length) : WtC l (B.set n true) (W ++ [(n : Int)]) k (m + 1) := by
  have hset : ∀ i, B[i]? = some true → (B.set n true)[i]? = some true := fun i hi => by
    rw [List.getElem?_set]
    split
    · rw [if_pos (by have := h.len; omega)]
    · exact hi
  have hself : (B.set n true)[n]? = some true := by
    rw [List.getElem?_set, if_pos rfl, if_pos (by have := h.len; omega)]
  have hget : ∀ i, (B.set n true)[i]? = some true → i = n ∨ B[i]? = some true := fun i hi => by
    rw [List.getElem?_set] at hi
    split at hi
    · rename_i e
      exact .inl e.symm
    · exact .inr hi
  have hrn : Rch l n := Rch.step (h.fromB k h.at_) (List.mem_of_getElem? hm)
  refine ⟨by rw [List.length_set]; exact h.len, fun i hi => ?_, fun j hj => ?_, fun i hi => ?_, hset 0 h.zero, hset k h.at_⟩
  · rcases hget i hi with rfl | e
    · exact hrn
    · exact h.fromB i e
  · rcases List.mem_append.1 hj with e | e
    · obtain ⟨p, e1, e2⟩ := h.fromW j e
      exact ⟨p, e1, hset p e2⟩
    · exact ⟨n, List.mem_singleton.1 e, hself⟩
  · rcases hget i hi with rfl | hi
    · exact .inl (by simp)
    · rcases h.out i hi with e | e | ⟨e, e2⟩
      · exact .inl (List.mem_append_left _ e)
      · exact .inr (.inl fun j hj => by obtain ⟨p, e1, e3⟩ := e j hj; exact ⟨p, e1, hset p e3⟩)
      · refine .inr (.inr ⟨e, fun j hj => ?_⟩)
        rcases take_mem hm hj with e3 | e3
        · obtain ⟨p, e1, e4⟩ := e2 j e3
          exact ⟨p, e1, hset p e4⟩
        · exact ⟨n, e3, hself⟩
section
variable {w : World} {ops : Array Oper} {rest : List Oper} {o : Oper} {a : Act} {Q : Exit → Act → World → Prop}
theorem wpList_pushI' (hgd : o.guard = none) (s x : Operand) (ho : o.op = .call { callee := .builtin .append, args := #[s, x], argTypes := #[47, 47] })
    (v : Value) (L : List Int) (y : Int) {n : Nat} (hn : n = w.heap.size) (hs : a.eval s = v) (hx : a.eval x = .slice (some ⟨n, 0, none⟩) 1 1) (h : Ints w v L) (hlen : L.length < 1073741824)
    (hK : ∀ v' w', Ints w' v' (L ++ [y]) → Kept (fun k => v.ownBlock = some k) w w' → (∀ g, v'.ownBlock = some g → v.ownBlock = some g ∨ w.heap.size ≤ g) → wpList Tryz.prog ops Q rest (a.put o.dst v') w') :
    wpList Tryz.prog ops Q (o :: rest) a (w.alloc (.cells #[.int .i64 y] 3)) := by
  subst hn
  exact wpList_pushI hgd s x ho v L y hs hx h hlen hK
end
end Go.Proofs.YtdchmelgaljpfaaGreat
