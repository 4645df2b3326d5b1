import Derived.Test.YtmgdjiplpfeoiaaDoorTq
set_option linter.unusedSimpArgs false
set_option linter.unusedVariables false
namespace Go.Proofs.YtmgdjiplpfeoiaaDoor

/-! ### arrays of arrays, in plain -/
def unitT (s : Int) : Ty := ⟨1, [117, 110, 105, 116], s, false, 0, 0, []⟩
def arrT (k : Nat) (c : UInt8) : Ty := ⟨3, [], 0, false, (k : Int) + 1, (c.toNat : Int), []⟩
def arrL (s : Int) (cs : List UInt8) : List Ty := unitT s :: cs.mapIdx arrT
def szS (s : Int) (cs : List UInt8) : Nat → Int
  | 0 => s
  | j + 1 => min (szS s cs j * ((cs.getD j 0).toNat : Int)) 65537
def ovP (s : Int) (cs : List UInt8) (i : Nat) : Bool := decide (65536 < szS s cs i)
def ovS (s : Int) (cs : List UInt8) (n : Nat) : Int := match firstF (ovP s cs) n with
  | none => -1
  | some i => (i : Int) + 1

section
variable {s : Int} {cs : List UInt8}
theorem arrL_len : (arrL s cs).length = cs.length + 1 := by simp [arrL]
theorem arrL_at {i : Nat} {t : Ty} (h : (arrL s cs)[i]? = some t) : (i = 0 ∧ t = unitT s) ∨ ∃ k c, i = k + 1 ∧ cs[k]? = some c ∧ t = arrT k c := by
  cases i with
  | zero => simp [arrL] at h; exact .inl ⟨rfl, h.symm⟩
  | succ k =>
    simp only [arrL, List.getElem?_cons_succ, List.getElem?_mapIdx] at h
    cases hc : cs[k]? with
    | none => rw [hc] at h; cases h
    | some c => rw [hc] at h; simp at h; exact .inr ⟨k, c, rfl, hc, h.symm⟩
theorem arr_succ {a b : Int} (h : b ∈ succL (arrL s cs) a) : b + 1 = a ∧ 1 ≤ b := by
  unfold succL at h
  cases ht : tyAt (arrL s cs) a with
  | none => rw [ht] at h; cases h
  | some t =>
    rw [ht] at h
    obtain ⟨i, rfl, hi⟩ := tyAt_get ht
    rcases arrL_at hi with ⟨_, rfl⟩ | ⟨k, c, rfl, _, rfl⟩
    · simp [unitT, holdsL] at h
    · simp [arrT, holdsL] at h
      subst h
      exact ⟨by omega, by omega⟩
theorem arr_reach {a b : Int} (h : Reach (arrL s cs) a b) : b < a := by
  induction h with
  | one h => have := arr_succ h; omega
  | more h _ ih => have := arr_succ h; omega
theorem arr_acyc : Acyc (arrL s cs) := fun a h => by have := arr_reach h; omega
theorem arr_alone (hs : s = 1 ∨ s = 2 ∨ s = 4 ∨ s = 8) : ∀ (i : Nat) (t : Ty), (arrL s cs)[i]? = some t → aloneC (arrL s cs) i t = 0 := by
  intro i t ht
  rcases arrL_at ht with ⟨rfl, rfl⟩ | ⟨k, c, rfl, hc, rfl⟩
  · unfold aloneC
    have h1 : calledB (arrL s cs) 0 (unitT s) = true := by
      unfold calledB
      have hb : namedB (unitT s).kind = true := rfl
      rw [if_pos hb]
      simp only [List.take_zero, List.all_nil, Bool.true_and]
      show nameB [117, 110, 105, 116] = true
      decide
    have h2 : sizedB (unitT s) = true := by
      unfold sizedB
      simp [unitT]
      omega
    have h3 : membersB (unitT s) = true := rfl
    have h4 : wholeB (unitT s) (arrL s cs).length = true := by
      unfold wholeB
      simp [unitT, leastC, mostC]
    rw [if_neg (by simp [unitT]), if_neg (by rw [h1]; simp), if_neg (by rw [h2]; simp), if_neg (by rw [h3]; simp), if_neg (by rw [h4]; simp)]
  · unfold aloneC
    have hk := (List.getElem?_eq_some_iff.1 hc).1
    have hc256 := c.toNat_lt
    have h1 : calledB (arrL s cs) (k + 1) (arrT k c) = true := by
      unfold calledB
      rw [if_neg (by simp [arrT, namedB])]
      rfl
    have h2 : sizedB (arrT k c) = true := by
      unfold sizedB
      have k1 : ¬ (arrT k c).kind = 1 := by simp [arrT]
      have k3 : (arrT k c).kind = 3 := rfl
      rw [if_neg k1, if_pos k3, Bool.and_eq_true]
      exact ⟨decide_eq_true (by simp [arrT]), decide_eq_true (by simp [arrT]; omega)⟩
    have h3 : membersB (arrT k c) = true := rfl
    have h4 : wholeB (arrT k c) (arrL s cs).length = true := by
      unfold wholeB
      rw [arrL_len]
      have e1 : decide (leastC (arrT k c).kind ≤ (arrT k c).to) = true := by rw [decide_eq_true_eq]; simp [arrT, leastC]; omega
      have e2 : decide ((arrT k c).to ≤ mostC (arrT k c).kind ((cs.length + 1 : Nat) : Int)) = true := by rw [decide_eq_true_eq]; simp [arrT, mostC]; omega
      rw [e1, e2]
      simp [arrT]
    rw [if_neg (by simp [arrT]), if_neg (by rw [h1]; simp), if_neg (by rw [h2]; simp), if_neg (by rw [h3]; simp), if_neg (by rw [h4]; simp)]
theorem arr_kind {i : Nat} {t : Ty} (h : (arrL s cs)[i]? = some t) : t.kind = 1 ∨ t.kind = 3 := by
  rcases arrL_at h with ⟨_, rfl⟩ | ⟨k, c, _, _, rfl⟩
  · exact .inl rfl
  · exact .inr rfl
theorem arr_size (hs : s = 1 ∨ s = 2 ∨ s = 4 ∨ s = 8) : ∀ (i : Nat), i ≤ cs.length → sizeL (arrL s cs) ((i : Int) + 1) = szS s cs i
  | 0, _ => by
    have hcl := closed_of (arr_alone (cs := cs) hs)
    have ht : (arrL s cs)[0]? = some (unitT s) := rfl
    have hta := get_tyAt ht
    rw [size_step (id := ((0 : Nat) : Int) + 1) hcl arr_acyc (t := unitT s) (by rw [through_stop hta (by simp [unitT])]; exact hta)]
    simp [unitT, szS]
  | i + 1, hi => by
    have ih := arr_size hs i (by omega)
    have hcl := closed_of (arr_alone (cs := cs) hs)
    have hc : cs[i]? = some cs[i] := List.getElem?_eq_getElem (by omega)
    have ht : (arrL s cs)[i + 1]? = some (arrT i cs[i]) := by simp [arrL, hc]
    have hta := get_tyAt ht
    rw [size_step (id := ((i + 1 : Nat) : Int) + 1) hcl arr_acyc (t := arrT i cs[i]) (by rw [through_stop hta (by simp [arrT])]; exact hta)]
    have hg : cs.getD i 0 = cs[i] := by rw [List.getD_eq_getElem?_getD, hc]; rfl
    simp only [szS, hg]
    simp only [arrT, ih]
    simp [Int.mul_comm]
theorem arr_check (hs : s = 1 ∨ s = 2 ∨ s = 4 ∨ s = 8) (hn : cs.length ≤ 20) : checkL (arrL s cs) = if ovS s cs (cs.length + 1) < 0 then (0, 0) else (ovS s cs (cs.length + 1), 43) := by
  have hal := arr_alone (cs := cs) hs
  have hcl := closed_of hal
  rw [check_eq (by rw [arrL_len]; omega) (by
    rw [List.any_eq_false]
    intro t ht
    obtain ⟨i, hi, e⟩ := List.mem_iff_getElem.1 ht
    rcases arrL_at (List.getElem?_eq_some_iff.2 ⟨hi, e⟩) with ⟨_, rfl⟩ | ⟨k, c, _, _, rfl⟩
    · simp [unitT]
    · simp [arrT])]
  have h1 : firstF (pA (arrL s cs)) (arrL s cs).length = none := by
    unfold firstF
    rw [List.find?_eq_none]
    intro i hi
    have hi := List.mem_range.1 hi
    unfold pA
    rw [List.getElem?_eq_getElem hi]
    simp [hal i _ (List.getElem?_eq_getElem hi)]
  have h2 : firstF (pR (arrL s cs)) (arrL s cs).length = none := by
    unfold firstF
    rw [List.find?_eq_none]
    intro i _
    unfold pR
    simp only [decide_eq_true_eq]
    exact arr_acyc _
  have h3 : firstF (pF (arrL s cs)) (arrL s cs).length = none := by
    unfold firstF
    rw [List.find?_eq_none]
    intro i hi
    have hi := List.mem_range.1 hi
    have ht := List.getElem?_eq_getElem hi
    unfold pF
    rw [ht]
    simp only [Option.map_some, Option.getD_some, Bool.not_eq_true]
    unfold functionsB
    split
    · rfl
    · rw [List.any_eq_false]
      intro b hb
      have hb2 : b ∈ succL (arrL s cs) ((i : Int) + 1) := by unfold succL; rw [get_tyAt ht]; exact hb
      obtain ⟨b1, b2⟩ := hcl _ _ hb2
      obtain ⟨u, hu⟩ := tyAt_some b1 b2
      obtain ⟨j, rfl, hj⟩ := tyAt_get hu
      have hk := arr_kind hj
      unfold kindAt
      rw [through_stop hu (by omega), hu]
      simp
      omega
  have h4 : firstF (pL (arrL s cs)) (arrL s cs).length = firstF (ovP s cs) (cs.length + 1) := by
    rw [arrL_len]
    unfold firstF
    have hpq : ∀ i ∈ List.range (cs.length + 1), pL (arrL s cs) i = ovP s cs i := fun i hi => by
      have hi := List.mem_range.1 hi
      have ht : (arrL s cs)[i]? = some ((arrL s cs)[i]'(by rw [arrL_len]; omega)) := List.getElem?_eq_getElem _
      unfold pL ovP
      rw [ht]
      simp only [Option.map_some, Option.getD_some]
      have hsz := arr_size (cs := cs) hs i (by omega)
      unfold laidB
      rw [hsz]
      rcases arrL_at ht with ⟨rfl, e⟩ | ⟨k, c, rfl, _, e⟩
      · rw [e]
        have : ((unitT s).kind = 3) = False := by simp [unitT]
        have h4' : ((unitT s).kind = 4) = False := by simp [unitT]
        simp only [this, h4', if_false, szS]
        have hns : ¬ 65536 < s := by omega
        simp [hns]
      · rw [e]
        have : ((arrT k c).kind = 3) = True := by simp [arrT]
        simp only [this, if_true]
        by_cases hx : szS s cs (k + 1) ≤ 65536
        · simp [hx]
          try omega
        · simp [hx]
          try omega
    generalize List.range (cs.length + 1) = r at *
    induction r with
    | nil => rfl
    | cons x r ih =>
      simp only [List.find?_cons]
      rw [hpq x (List.mem_cons_self ..), ih (fun i hi => hpq i (List.mem_cons_of_mem _ hi))]
  rw [h1]
  simp only [h2, h3, h4]
  unfold ovS
  cases firstF (ovP s cs) (cs.length + 1) with
  | none => rfl
  | some i =>
    simp only
    rw [if_neg (by omega)]
theorem arr_sizeR (hs : s = 1 ∨ s = 2 ∨ s = 4 ∨ s = 8) (hn : cs.length ≤ 20) (ho : ovS s cs (cs.length + 1) < 0) : sizeR (arrL s cs) ((cs.length : Int) + 1) = (szS s cs cs.length, 0) := by
  have hc := arr_check (cs := cs) hs hn
  rw [if_pos ho] at hc
  have ht : (arrL s cs)[cs.length]? = some ((arrL s cs)[cs.length]'(by rw [arrL_len]; omega)) := List.getElem?_eq_getElem _
  have hk := arr_kind ht
  have hta := get_tyAt ht
  have hth := through_stop hta (by omega)
  have hr : resolveL (arrL s cs) ((cs.length : Int) + 1) = ((cs.length : Int) + 1, 0) := by
    unfold resolveL
    rw [hc, if_neg (by simp), if_neg (by rw [arrL_len]; omega), hth]
  unfold sizeR
  rw [hr]
  simp only
  rw [if_neg (by simp), if_neg (by unfold kindAt; rw [hta]; simp; omega), arr_size hs _ (Nat.le_refl _)]
end

end Go.Proofs.YtmgdjiplpfeoiaaDoor
