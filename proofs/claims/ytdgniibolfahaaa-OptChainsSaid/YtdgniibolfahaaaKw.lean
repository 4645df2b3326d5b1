import Derived.Test.YtdgniibolfahaaaKu
set_option linter.unusedSimpArgs false
set_option linter.unusedVariables false
namespace Go.Proofs.Ytdgniibolfahaaa
open Go.RowKit

/-! ### a row of jumps, each to the next one -/
def chL (n : Nat) : List In := List.replicate n (inJ 0) ++ [inM 3, inE]
theorem ch_len (n : Nat) : (chL n).length = n + 2 := by simp [chL]
theorem ch_at (n i : Nat) : (chL n)[i]? = if i < n then some (inJ 0) else if i = n then some (inM 3) else if i = n + 1 then some inE else Option.none := by
  unfold chL
  by_cases h : i < n
  · rw [if_pos h, List.getElem?_append_left (by simpa using h), List.getElem?_replicate, if_pos h]
  · rw [if_neg h, List.getElem?_append_right (by simpa using h), List.length_replicate]
    by_cases h1 : i = n
    · subst h1
      rw [Nat.sub_self, if_pos rfl]
      rfl
    · rw [if_neg h1]
      by_cases h2 : i = n + 1
      · subst h2
        rw [Nat.add_sub_cancel_left, if_pos rfl]
        rfl
      · rw [if_neg h2, List.getElem?_eq_none (by simp; omega)]
theorem ch_mem {n : Nat} {x : In} (h : x ∈ chL n) : x = inJ 0 ∨ x = inM 3 ∨ x = inE := by
  unfold chL at h
  rcases List.mem_append.1 h with h | h
  · exact .inl (List.mem_replicate.1 h).2
  · simp only [List.mem_cons, List.not_mem_nil, or_false] at h
    exact .inr h
theorem ch_ok {n : Nat} (hn : n ≤ 1000) : InsOk (chL n) := ⟨by rw [ch_len]; omega, fun x hx => by
  rcases ch_mem hx with rfl | rfl | rfl <;> exact ⟨by decide, by decide, by decide, by decide, by decide⟩⟩
theorem sec_none : ∀ {l : List In}, (∀ x ∈ l, x.op ≠ 24) → ∀ i, i < l.length → (secG false l)[i]? = some false
  | [], _, i, h => by simp at h
  | x :: l, hx, 0, _ => rfl
  | x :: l, hx, i + 1, h => by
    have h24 : (x.op == 24) = false := by simpa using hx x (List.mem_cons_self ..)
    simp only [secG, List.getElem?_cons_succ, h24, Bool.false_and]
    exact sec_none (fun y hy => hx y (List.mem_cons_of_mem _ hy)) i (by simpa using h)
theorem ch_sec {n i : Nat} (hi : i < n + 2) : (secL (chL n))[i]? = some false :=
  sec_none (fun x hx => by rcases ch_mem hx with rfl | rfl | rfl <;> decide) i (by rw [ch_len]; exact hi)
theorem ch_wr {n : Nat} (i : Nat) (x : In) (hx : (chL n)[i]? = some x) : wrongC (chL n) i x = 0 := by
  rcases ch_mem (List.mem_of_getElem? hx) with rfl | rfl | rfl <;> rfl
theorem ch_begins {n : Nat} (hn : n ≤ 1000) : ∀ b ∈ beginsL (chL n), b = 0 := fun b hb => by
  have hz : slotsC (chL n) = 0 := slots_of (by rw [ch_len]; omega) (by rw [ch_len]; omega) (fun i x hx _ => ch_wr i x hx)
  rcases ((begins_ok hz).2.1 b).1 hb with h | ⟨i, _, h⟩
  · exact h
  · exfalso
    unfold tgtC at h
    cases hx : (chL n)[i]? with
    | none => rw [hx] at h; cases h
    | some x =>
      rw [hx] at h
      have hc : isCallB x = false := by rcases ch_mem (List.mem_of_getElem? hx) with rfl | rfl | rfl <;> rfl
      cases hs : (secL (chL n))[i]? with
      | none => rw [hs] at h; cases h
      | some b =>
        rw [hs] at h
        cases b
        · simp [hc] at h
        · cases h
theorem ch_va {n : Nat} (hn : n ≤ 1000) : Va (chL n) := by
  have hb := ch_begins hn
  have hsame : ∀ i m, SameP (chL n) i m := fun i m b hbm => by rw [hb b hbm]; omega
  refine ⟨by rw [ch_len]; omega, by rw [ch_len]; omega, fun i x hx _ => ch_wr i x hx, ?_, fun i x hx hs h149 h5 => ?_, fun i x hx hs hj => ?_⟩
  · have hz : slotsC (chL n) = 0 := slots_of (by rw [ch_len]; omega) (by rw [ch_len]; omega) (fun i x hx _ => ch_wr i x hx)
    have := len_le_of_sub (b := [0]) (rising_nodup (begins_ok hz).1) (fun b hbm => by rw [hb b hbm]; simp)
    simp at this
    omega
  · have hi : i = n := by
      rw [ch_at] at hx
      split at hx
      · cases hx
        exact absurd rfl h5
      · split at hx
        · assumption
        · split at hx
          · cases hx
            exact absurd rfl h149
          · cases hx
    subst hi
    have hxe : x = inM 3 := by
      rw [ch_at, if_neg (by omega), if_pos rfl] at hx
      exact (Option.some.inj hx).symm
    subst hxe
    have hbe : behI i (inM 3) = i + 1 := rfl
    rw [hbe, ch_len]
    exact ⟨by omega, ch_sec (by omega), hsame _ _⟩
  · have hi : i < n := by
      rw [ch_at] at hx
      split at hx
      · assumption
      · split at hx
        · cases hx
          exact absurd hj (by decide)
        · split at hx
          · cases hx
            exact absurd hj (by decide)
          · cases hx
    have hxe : x = inJ 0 := by
      rw [ch_at, if_pos hi] at hx
      exact (Option.some.inj hx).symm
    subst hxe
    exact ⟨i + 1, by show (i : Int) + 1 + 0 = _; omega, by rw [ch_len]; omega, ch_sec (by omega), hsame _ _⟩
theorem ch_rch {n : Nat} : ∀ i, i < n + 2 → Rch (chL n) i
  | 0, _ => .zero
  | i + 1, hi => by
    refine .step (ch_rch i (by omega)) ?_
    by_cases h : i < n
    · rw [succ_at (show (chL n)[i]? = some (inJ 0) by rw [ch_at, if_pos h])]
      have : nextC i (inJ 0) = [(i : Int) + 1 + 0] := rfl
      rw [this]
      simp
    · obtain rfl : i = n := by omega
      rw [succ_at (show (chL i)[i]? = some (inM 3) by rw [ch_at, if_neg (by omega), if_pos rfl])]
      have : nextC i (inM 3) = [(i : Int) + 1] := rfl
      rw [this]
      simp
theorem ch_idle {n : Nat} : idleC (chL (n + 1)) = 0 := by
  unfold idleC
  rw [ch_len]
  show (if idleB (chL (n + 1)) 0 = true then ((0 : Nat) : Int) else _) = 0
  have : idleB (chL (n + 1)) 0 = true := by
    unfold idleB
    rw [ch_at, if_pos (by omega), ch_sec (by omega)]
    rfl
  rw [if_pos this]
  rfl
theorem ch_idle0 : idleC (chL 0) = -1 := by decide +kernel
theorem drop0_place (n : Nat) : ∀ i, i < n → placeC (dropL n 0) (i + 1) = i
  | 0, h => by rw [place_skip (fun e => (drop_true.1 e).2 rfl)]; rfl
  | i + 1, h => by rw [place_step (drop_true.2 ⟨h, by omega⟩), drop0_place n i (by omega)]
theorem ch_drop {n : Nat} : keptL (chL (n + 1)) (dropL (chL (n + 1)).length 0) = chL n := by
  have hl : (dropL (chL (n + 1)).length 0).length = (chL (n + 1)).length := by simp [dropL]
  have hcl := ch_len (n + 1)
  have hkl : (keptL (chL (n + 1)) (dropL (chL (n + 1)).length 0)).length = n + 2 := by
    rw [keptL_len hl, hcl]
    exact drop0_place (n + 1 + 2) (n + 2) (by omega)
  apply List.ext_getElem?
  intro j
  by_cases hj : j < n + 2
  · obtain ⟨x, hx⟩ : ∃ x, (chL (n + 1))[j + 1]? = some x := ⟨_, List.getElem?_eq_getElem (by rw [hcl]; omega)⟩
    have hp := drop0_place (chL (n + 1)).length j (by rw [hcl]; omega)
    have := keptL_at hl (i := j + 1) (drop_true.2 ⟨by rw [hcl]; omega, by omega⟩) hx
    rw [hp] at this
    rw [this]
    have hxe : (chL n)[j]? = some x := by
      rw [ch_at] at hx ⊢
      by_cases h1 : j < n
      · rw [if_pos (by omega)] at hx
        rw [if_pos h1, hx]
      · rw [if_neg (by omega)] at hx
        rw [if_neg h1]
        by_cases h2 : j = n
        · rw [if_pos (by omega)] at hx
          rw [if_pos h2, hx]
        · rw [if_neg (by omega)] at hx
          rw [if_neg h2]
          by_cases h3 : j = n + 1
          · rw [if_pos (by omega)] at hx
            rw [if_pos h3, hx]
          · omega
    rw [hxe]
    congr 1
    unfold fixC
    rw [if_neg (by rw [ch_sec (by omega)]; simp)]
    rcases ch_mem (List.mem_of_getElem? hx) with rfl | rfl | rfl
    · have hj2 : j + 1 < (chL (n + 1)).length - 1 := by
        rw [ch_at] at hx
        rw [hcl]
        split at hx
        · omega
        · split at hx
          · exact absurd hx (by decide)
          · split at hx
            · exact absurd hx (by decide)
            · cases hx
      rw [if_pos (by rfl), hp]
      have ht : (((j + 1 : Nat) : Int) + 1 + (inJ 0).off).toNat = j + 1 + 1 := by
        show (((j + 1 : Nat) : Int) + 1 + 0).toNat = _
        omega
      rw [ht, drop0_place (chL (n + 1)).length (j + 1) (by omega)]
      have : ((j + 1 : Nat) : Int) - ((j : Int) + 1) = 0 := by omega
      rw [this]
      rfl
    · rfl
    · rfl
  · rw [List.getElem?_eq_none (by rw [hkl]; omega), List.getElem?_eq_none (by rw [ch_len]; omega)]
theorem renum_drop {n : Nat} {N : List Int} (h : N.length = n + 1) : renum N (outL (dropL (n + 1) 0) (n + 1)) = N.drop 1 := by
  have hout : outL (dropL (n + 1) 0) (n + 1) = (List.range n).map (fun (i : Nat) => ((i : Int) + 1)) := by
    have hlen : (outL (dropL (n + 1) 0) (n + 1)).length = n := by
      have := (kept_len (l := List.replicate (n + 1) inE) (S := dropL (n + 1) 0) (n + 1) (by simp) (by simp [dropL])).2
      rw [this]
      exact drop0_place (n + 1) n (by omega)
    apply List.ext_getElem?
    intro j
    by_cases hj : j < n
    · have h2 := (kept_at (l := List.replicate (n + 1) inE) (S := dropL (n + 1) 0) (by simp [dropL]) (n + 1) (j + 1) (by simp) (by omega) (drop_true.2 ⟨by omega, by omega⟩) inE (by rw [List.getElem?_replicate, if_pos (by omega)])).2
      rw [drop0_place (n + 1) j (by omega)] at h2
      rw [h2, List.getElem?_map, range_take _ _ hj]
      simp
    · rw [List.getElem?_eq_none (by omega), List.getElem?_eq_none (by simp; omega)]
  rw [hout]
  unfold renum
  apply List.ext_getElem?
  intro j
  rw [List.map_map, List.getElem?_map, List.getElem?_drop]
  by_cases hj : j < n
  · rw [range_take _ _ hj]
    simp only [Option.map_some, Function.comp]
    rw [show ((j : Int) + 1).toNat = 1 + j by omega, List.getD_eq_getElem?_getD, List.getElem?_eq_getElem (by omega)]
    rfl
  · rw [List.getElem?_eq_none (by simp; omega), List.getElem?_eq_none (by omega)]
    rfl
theorem ch_trimG : ∀ (n f : Nat) (N : List Int), N.length = n + 2 → n + 1 ≤ f → trimG f (chL n) N = (chL 0, N.drop n)
  | 0, f, N, hN, hf => by
    obtain ⟨f, rfl⟩ : ∃ g, f = g + 1 := ⟨f - 1, by omega⟩
    unfold trimG
    rw [if_pos (by rw [ch_idle0]; decide)]
    rfl
  | n + 1, f, N, hN, hf => by
    obtain ⟨f, rfl⟩ : ∃ g, f = g + 1 := ⟨f - 1, by omega⟩
    unfold trimG
    rw [if_neg (by rw [ch_idle]; decide), ch_idle, show (0 : Int).toNat = 0 from rfl, ch_drop, ch_len]
    have := renum_drop (n := n + 2) (N := N) hN
    rw [show n + 1 + 2 = n + 2 + 1 by omega, this]
    rw [ch_trimG n f (N.drop 1) (by rw [List.length_drop, hN]; omega) (by omega), List.drop_drop]
    congr 2
    omega
theorem out_all (n : Nat) : ∀ m, m ≤ n → outL (List.replicate n true) m = (List.range m).map (fun (i : Nat) => (i : Int))
  | 0, _ => rfl
  | m + 1, h => by
    rw [out_succ _ m true (by rw [List.getElem?_replicate, if_pos (by omega)]), out_all n m (by omega), List.range_succ, List.map_append]
    rfl
theorem ch_trim {n : Nat} (hn : n ≤ 1000) : trimO (chL n) = ([inM 3, inE], [(n : Int), (n : Int) + 1]) := by
  have hv := ch_va hn
  unfold trimO
  rw [if_pos (check_va hv), trim_rep hv (ch_ok hn) (fun i hi _ => ch_rch i (by rw [ch_len] at hi; exact hi)), ch_len, out_all (n + 2) (n + 2) (Nat.le_refl _), ch_trimG n (n + 2) _ (by simp) (by omega)]
  congr 1
  rw [List.range_add, List.map_append, List.drop_left' (by simp)]
  show [((n + 0 : Nat) : Int), ((n + 1 : Nat) : Int)] = _
  rfl
theorem ch_thr {n : Nat} (hn : n ≤ 1000) {u : List In} (h : Thr (chL n) u) {i : Nat} (hi : i < n) : u[i]? = some (inJ ((n : Int) - i - 1)) := by
  obtain ⟨y, hy, e1, e2, e3, e4, _, e6⟩ := h.get i (inJ 0) (by rw [ch_at, if_pos hi])
  obtain ⟨tgt, f, ht, hf, _, _, _, eo⟩ := e6 (ch_sec (by omega)) rfl
  have ht : (i : Int) + 1 + 0 = tgt := ht
  have hstep : ∀ k, k < n → stepJ (chL n) k = some (k + 1) := fun k hk => by
    unfold stepJ
    rw [ch_at, if_pos hk]
    show some ((k : Int) + 1 + 0).toNat = _
    congr 1
  have hit : ∀ d k, k + d = n → iterJ (chL n) d k = some n := by
    intro d
    induction d with
    | zero => intro k hk; rw [show k = n by omega]; rfl
    | succ d ih =>
      intro k hk
      unfold iterJ
      rw [hstep k (by omega)]
      exact ih (k + 1) (by omega)
  have hend : stepJ (chL n) n = Option.none := by
    unfold stepJ
    rw [ch_at, if_neg (by omega), if_pos rfl]
    rfl
  have hfn := hf.eq (hit (n - tgt) tgt (by omega)) hend
  rw [hy]
  congr 1
  obtain ⟨b1, b2, b3, b4, b5⟩ := y
  simp only at e1 e2 e3 e4 eo
  subst e1 e2 e3 e4 eo
  rw [hfn]
  rfl

end Go.Proofs.Ytdgniibolfahaaa
