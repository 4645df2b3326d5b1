import Derived.Test.YtmgdjiplpfeoiaaDoorTx
set_option linter.unusedSimpArgs false
set_option linter.unusedVariables false
namespace Go.Proofs.YtmgdjiplpfeoiaaDoor
open Go.RowKit

theorem firstF_true {p : Nat → Bool} {n i : Nat} (h : firstF p n = some i) : p i = true ∧ i < n := by
  unfold firstF at h
  exact ⟨List.find?_some h, List.mem_range.1 (List.mem_of_find?_eq_some h)⟩
theorem good_of {l : List Ty} (hr : Raw l) (h : (checkL l).2 = 0) : Good l ∧ firstF (pF l) l.length = none ∧ firstF (pL l) l.length = none := by
  by_cases h256 : 256 < l.length
  · unfold checkL at h
    rw [if_pos h256] at h
    cases h
  cases hany : l.any (fun t => decide (64 < t.mem.length)) with
  | true =>
    unfold checkL at h
    rw [if_neg h256, if_pos hany] at h
    cases h
  | false =>
    rw [check_eq h256 hany] at h
    cases hA : firstF (pA l) l.length with
    | some i =>
      rw [hA] at h
      have h1 := firstF_true hA
      unfold pA at h1
      simp only at h
      rw [h] at h1
      simp at h1
    | none =>
      rw [hA] at h
      simp only at h
      cases hR : firstF (pR l) l.length with
      | some i => rw [hR] at h; cases h
      | none =>
        rw [hR] at h
        simp only at h
        cases hF : firstF (pF l) l.length with
        | some i => rw [hF] at h; cases h
        | none =>
          rw [hF] at h
          simp only at h
          cases hL : firstF (pL l) l.length with
          | some i => rw [hL] at h; cases h
          | none =>
            have halone : ∀ (i : Nat) (t : Ty), l[i]? = some t → aloneC l i t = 0 := fun i t ht => by
              have := firstF_none hA (List.getElem?_eq_some_iff.1 ht).1
              unfold pA at this
              rw [ht] at this
              simpa using this
            exact ⟨⟨⟨by omega, fun t ht => by
              rw [List.any_eq_false] at hany
              have := hany t ht
              simpa using this, hr.name, hr.mname⟩, acyc_of (closed_of halone) hR, halone, hr.bits⟩, rfl, rfl⟩

noncomputable def resolveL (l : List Ty) (id : Int) : Int × Int := if (checkL l).2 ≠ 0 then (0, (checkL l).2) else if id < 1 ∨ (l.length : Int) < id then (0, 41) else (throughL l id, 0)
noncomputable def sizeR (l : List Ty) (id : Int) : Int × Int := if (resolveL l id).2 ≠ 0 then (0, (resolveL l id).2) else if kindAt l (resolveL l id).1 = 6 then (0, 41) else (sizeL l (resolveL l id).1, 0)

set_option maxHeartbeats 2000000 in
set_option maxRecDepth 100000 in
theorem resolve_any (l : List Ty) (a : Option Addr) (c : Nat) (id : Int) (w : World) (h : Tys w (.slice a l.length c) l) (hr : Raw l) :
    Calls Tryd.prog 31 #[.slice a l.length c, .int .i64 id] w fun e w' => e = .returned (.tuple #[.int .i64 (resolveL l id).1, .int .i64 (resolveL l id).2]) ∧ Kept (fun _ => False) w w' := by
  have hmx := hr.len
  unfold maxLen at hmx
  by_cases h0 : (checkL l).2 = 0
  · obtain ⟨hg, _, _⟩ := good_of hr h0
    by_cases h1 : id < 1
    · have hR : resolveL l id = (0, 41) := by unfold resolveL; rw [if_neg (by simpa using h0), if_pos (.inl h1)]
      go_enter Tryd.func31, Tryd.ntmps31
      go_wp2_with fail
      refine (check_any l a c w h hr).mono ?_
      rintro e w1 ⟨rfl, hk1⟩
      rw [h0]
      go_wp2_with fail
      go_ret2
      exact ⟨by rw [hR]; rfl, hk1⟩
    by_cases h2 : (l.length : Int) < id
    · have hR : resolveL l id = (0, 41) := by unfold resolveL; rw [if_neg (by simpa using h0), if_pos (.inr h2)]
      go_enter Tryd.func31, Tryd.ntmps31
      go_wp2_with fail
      refine (check_any l a c w h hr).mono ?_
      rintro e w1 ⟨rfl, hk1⟩
      rw [h0]
      go_wp2_with fail
      go_ret2
      exact ⟨by rw [hR]; rfl, hk1⟩
    have hR : resolveL l id = (throughL l id, 0) := by unfold resolveL; rw [if_neg (by simpa using h0), if_neg (by omega)]
    obtain ⟨k, rfl⟩ : ∃ k : Nat, id = (k : Int) + 1 := ⟨(id - 1).toNat, by omega⟩
    go_enter Tryd.func31, Tryd.ntmps31
    go_wp2_with fail
    refine (check_any l a c w h hr).mono ?_
    rintro e w1 ⟨rfl, hk1⟩
    rw [h0]
    go_wp2_with fail
    refine (through_any l a c k w1 (h.kept hk1) hg (by omega)).mono ?_
    rintro e w2 ⟨rfl, rfl⟩
    go_wp2_with fail
    go_ret2
    exact ⟨by rw [hR]; rfl, hk1⟩
  · have hR : resolveL l id = (0, (checkL l).2) := by unfold resolveL; rw [if_pos h0]
    have e0 : ((checkL l).2 != 0) = true := by simpa using h0
    clear h0
    go_enter Tryd.func31, Tryd.ntmps31
    go_wp2_with fail
    refine (check_any l a c w h hr).mono ?_
    rintro e w1 ⟨rfl, hk1⟩
    go_wp2_with fail
    go_ret2
    exact ⟨by rw [hR]; rfl, hk1⟩

theorem resolve_ok {l : List Ty} {id : Int} (h : (resolveL l id).2 = 0) : (checkL l).2 = 0 ∧ 1 ≤ id ∧ id ≤ (l.length : Int) ∧ (resolveL l id).1 = throughL l id := by
  unfold resolveL at *
  split at h
  · rename_i h1
    exact absurd h h1
  · rename_i h1
    split at h
    · cases h
    · rename_i h2
      refine ⟨by simpa using h1, by omega, by omega, ?_⟩
      rw [if_neg h1, if_neg h2]

set_option maxHeartbeats 2000000 in
set_option maxRecDepth 100000 in
theorem sizeR_any (l : List Ty) (a : Option Addr) (c : Nat) (id : Int) (w : World) (h : Tys w (.slice a l.length c) l) (hr : Raw l) :
    Calls Tryd.prog 14 #[.slice a l.length c, .int .i64 id] w fun e w' => e = .returned (.tuple #[.int .i64 (sizeR l id).1, .int .i64 (sizeR l id).2]) ∧ Kept (fun _ => False) w w' := by
  by_cases h0 : (resolveL l id).2 = 0
  · obtain ⟨hc, h1, h2, ht⟩ := resolve_ok h0
    obtain ⟨hg, _, _⟩ := good_of hr hc
    have h256 := hg.fit.len
    obtain ⟨i, hi⟩ : ∃ i : Nat, id = (i : Int) + 1 := ⟨(id - 1).toNat, by omega⟩
    subst hi
    obtain ⟨k, t, hk1, hk2, hta, hk5⟩ := through_ix hg (i := i) (by omega)
    have hkl := (List.getElem?_eq_some_iff.1 hk2).1
    have hka : kindAt l (resolveL l ((i : Int) + 1)).1 = t.kind := by rw [ht]; unfold kindAt; rw [hta]; rfl
    by_cases h6 : t.kind = 6
    · have hS : sizeR l ((i : Int) + 1) = (0, 41) := by unfold sizeR; rw [if_neg (by simpa using h0), if_pos (by rw [hka]; exact h6)]
      have e6 : (t.kind == 6) = true := by simpa using h6
      clear h6 hka
      go_enter Tryd.func14, Tryd.ntmps14
      go_wp2_with fail
      refine (resolve_any l a c _ w h hr).mono ?_
      rintro e w1 ⟨rfl, hk1'⟩
      rw [h0, ht, hk1]
      obtain ⟨g, off, mv, rfl, hgl, hm, c0, c1, c2, c3, c4, c5, c6⟩ := (h.kept hk1').at_ hk2
      go_wp2_with fail
      go_ret2
      exact ⟨by rw [hS]; rfl, hk1'⟩
    · have hS : sizeR l ((i : Int) + 1) = (sizeL l ((k : Int) + 1), 0) := by unfold sizeR; rw [if_neg (by simpa using h0), if_neg (by rw [hka]; exact h6), ht, hk1]
      have e6 : (t.kind == 6) = false := by simpa using h6
      clear h6 hka
      go_enter Tryd.func14, Tryd.ntmps14
      go_wp2_with fail
      refine (resolve_any l a c _ w h hr).mono ?_
      rintro e w1 ⟨rfl, hk1'⟩
      rw [h0, ht, hk1]
      have hT1 := h.kept hk1'
      obtain ⟨g, off, mv, rfl, hgl, hm, c0, c1, c2, c3, c4, c5, c6⟩ := hT1.at_ hk2
      go_wp2_with fail
      refine (size_ih l _ c hg (rk l ((k : Int) + 1) + 1) k w1 hT1 hkl (Nat.lt_succ_self _)).mono ?_
      rintro e w2 ⟨rfl, hk2'⟩
      go_wp2_with fail
      go_ret2
      exact ⟨by rw [hS]; rfl, hk1'.trans hk2' (fun _ _ h => h)⟩
  · have hS : sizeR l id = (0, (resolveL l id).2) := by unfold sizeR; rw [if_pos h0]
    have e0 : ((resolveL l id).2 != 0) = true := by simpa using h0
    clear h0
    go_enter Tryd.func14, Tryd.ntmps14
    go_wp2_with fail
    refine (resolve_any l a c _ w h hr).mono ?_
    rintro e w1 ⟨rfl, hk1⟩
    go_wp2_with fail
    go_ret2
    exact ⟨by rw [hS]; rfl, hk1⟩

end Go.Proofs.YtmgdjiplpfeoiaaDoor
