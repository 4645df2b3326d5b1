import Derived.Test.YtmgdjiplpfeoiaaDoorTq
set_option linter.unusedSimpArgs false
set_option linter.unusedVariables false
namespace Go.Proofs.YtmgdjiplpfeoiaaDoor

/-! ### lists that are right -/
theorem check_zero {l : List Ty} (hn : l.length ≤ 256) (hm : ∀ t ∈ l, t.mem.length ≤ 64) (hal : ∀ (i : Nat) (t : Ty), l[i]? = some t → aloneC l i t = 0) (hac : Acyc l)
    (hk6 : ∀ t ∈ l, t.kind ≠ 6) (hld : ∀ (i : Nat) (t : Ty), l[i]? = some t → laidB l ((i : Int) + 1) t = true) : checkL l = (0, 0) := by
  have hcl := closed_of hal
  rw [check_eq (by omega) (by
    rw [List.any_eq_false]
    intro t ht
    have := hm t ht
    simp
    omega)]
  have h1 : firstF (pA l) l.length = none := by
    unfold firstF
    rw [List.find?_eq_none]
    intro i hi
    have hi := List.mem_range.1 hi
    unfold pA
    rw [List.getElem?_eq_getElem hi]
    simp [hal i _ (List.getElem?_eq_getElem hi)]
  have h2 : firstF (pR l) l.length = none := by
    unfold firstF
    rw [List.find?_eq_none]
    intro i _
    unfold pR
    simp only [decide_eq_true_eq]
    exact hac _
  have h3 : firstF (pF l) l.length = none := by
    unfold firstF
    rw [List.find?_eq_none]
    intro i hi
    have hi := List.mem_range.1 hi
    have ht := List.getElem?_eq_getElem hi
    unfold pF
    rw [ht]
    simp only [Option.map_some, Option.getD_some, Bool.not_eq_true]
    unfold functionsB
    split
    · rfl
    · rw [List.any_eq_false]
      intro b hb
      have hb2 : b ∈ succL l ((i : Int) + 1) := by unfold succL; rw [get_tyAt ht]; exact hb
      obtain ⟨b1, b2⟩ := hcl _ _ hb2
      obtain ⟨u, hu, _⟩ := through_at hcl hac b1 b2
      obtain ⟨j, _, hj⟩ := tyAt_get hu
      have := hk6 u (List.mem_of_getElem? hj)
      unfold kindAt
      rw [hu]
      simpa using this
  have h4 : firstF (pL l) l.length = none := by
    unfold firstF
    rw [List.find?_eq_none]
    intro i hi
    have hi := List.mem_range.1 hi
    have ht := List.getElem?_eq_getElem hi
    unfold pL
    rw [ht]
    simp [hld i _ ht]
  rw [h1]
  simp only [h2, h3, h4]
/-- a list in which a type holds itself -/
theorem check_cycle {l : List Ty} (hn : l.length ≤ 256) (hm : ∀ t ∈ l, t.mem.length ≤ 64) (hal : ∀ (i : Nat) (t : Ty), l[i]? = some t → aloneC l i t = 0) (hp : 0 < l.length) (hr : Reach l 1 1) : checkL l = (1, 42) := by
  rw [check_eq (by omega) (by
    rw [List.any_eq_false]
    intro t ht
    have := hm t ht
    simp
    omega)]
  have h1 : firstF (pA l) l.length = none := by
    unfold firstF
    rw [List.find?_eq_none]
    intro i hi
    have hi := List.mem_range.1 hi
    unfold pA
    rw [List.getElem?_eq_getElem hi]
    simp [hal i _ (List.getElem?_eq_getElem hi)]
  have h2 : firstF (pR l) l.length = some 0 := by
    refine firstF_some (j := 0) rfl ?_ hp
    unfold pR
    simp only [decide_eq_true_eq]
    exact hr
  rw [h1]
  simp only [h2]
  rfl

/-! ### rounds, in plain -/
def lettersL : List UInt8 := [97, 98, 99, 100, 101, 102, 103, 104, 105, 106, 107, 108, 109, 110, 111, 112, 113, 114, 115, 116, 117, 118, 119, 120, 121, 122, 65, 66, 67, 68, 69, 70, 71, 72, 73, 74, 75, 76, 77, 78, 79, 80, 81, 82, 83, 84, 85, 86, 87, 88, 89, 90]
def letL (i : Nat) : List UInt8 := [lettersL.getD i 0]
theorem letL_name : ∀ i, i < 52 → nameB (letL i) = true := by decide
theorem letL_inj : ∀ i, i < 52 → ∀ j, j < 52 → letL i = letL j → i = j := by decide +kernel
def rTo (n i : Nat) : Int := (((i + 1) % n : Nat) : Int) + 1
def rTy (n : Nat) (p : Int) (i : Nat) (c : UInt8) : Ty :=
  if (i : Int) = p then ⟨2, [], 0, false, rTo n i, 0, []⟩
  else if c.toNat % 3 = 0 then ⟨5, letL i, 0, false, rTo n i, 0, []⟩
  else if c.toNat % 3 = 1 then ⟨3, [], 0, false, rTo n i, 1, []⟩
  else ⟨4, letL i, 8, false, 0, 0, [⟨[109], rTo n i, 0⟩]⟩
def rL (n : Nat) (p : Int) (cs : List UInt8) : List Ty := cs.mapIdx (rTy n p)

section
variable {n : Nat} {p : Int} {cs : List UInt8}
theorem rL_len : (rL n p cs).length = cs.length := by simp [rL]
theorem rL_at {i : Nat} {t : Ty} (h : (rL n p cs)[i]? = some t) : ∃ c, cs[i]? = some c ∧ t = rTy n p i c := by
  simp only [rL, List.getElem?_mapIdx] at h
  cases hc : cs[i]? with
  | none => rw [hc] at h; cases h
  | some c => rw [hc] at h; simp at h; exact ⟨c, rfl, h.symm⟩
theorem rTo_range (hn : 1 ≤ n) (i : Nat) : 1 ≤ rTo n i ∧ rTo n i ≤ n := by
  have := Nat.mod_lt (i + 1) (show n > 0 by omega)
  unfold rTo
  omega
theorem rTy_kinds (i : Nat) (c : UInt8) : ((i : Int) = p ∧ (rTy n p i c).kind = 2 ∧ (rTy n p i c).name = [] ∧ holdsL (rTy n p i c) = []) ∨
    ((i : Int) ≠ p ∧ holdsL (rTy n p i c) = [rTo n i] ∧ ((rTy n p i c).kind = 5 ∧ (rTy n p i c).name = letL i ∧ (rTy n p i c).to = rTo n i ∨ (rTy n p i c).kind = 3 ∧ (rTy n p i c).name = [] ∧ (rTy n p i c).to = rTo n i ∧ (rTy n p i c).count = 1 ∨ (rTy n p i c).kind = 4 ∧ (rTy n p i c).name = letL i ∧ (rTy n p i c).size = 8 ∧ (rTy n p i c).mem = [⟨[109], rTo n i, 0⟩])) := by
  unfold rTy
  split
  · exact .inl ⟨by assumption, rfl, rfl, rfl⟩
  · refine .inr ⟨by assumption, ?_⟩
    split
    · exact ⟨rfl, .inl ⟨rfl, rfl, rfl⟩⟩
    · split
      · exact ⟨rfl, .inr (.inl ⟨rfl, rfl, rfl, rfl⟩)⟩
      · exact ⟨rfl, .inr (.inr ⟨rfl, rfl, rfl, rfl⟩)⟩
theorem rL_mem : ∀ t ∈ rL n p cs, t.mem.length ≤ 1 ∧ t.kind ≠ 6 ∧ t.name.length ≤ 1 ∧ (∀ m ∈ t.mem, m.name.length ≤ 1 ∧ m.bits = 0) := fun t ht => by
  obtain ⟨i, hi, e⟩ := List.mem_iff_getElem.1 ht
  obtain ⟨c, _, rfl⟩ := rL_at (List.getElem?_eq_some_iff.2 ⟨hi, e⟩)
  unfold rTy
  split
  · exact ⟨by simp, by simp, by simp, by simp⟩
  · split
    · exact ⟨by simp, by simp, by simp [letL], by simp⟩
    · split
      · exact ⟨by simp, by simp, by simp, by simp⟩
      · exact ⟨by simp, by simp, by simp [letL], by simp⟩
theorem r_alone (h1 : 1 ≤ n) (hn : n ≤ 40) (hc : cs.length = n) : ∀ (i : Nat) (t : Ty), (rL n p cs)[i]? = some t → aloneC (rL n p cs) i t = 0 := by
  intro i t ht
  have hi : i < n := by have := (List.getElem?_eq_some_iff.1 ht).1; rw [rL_len] at this; omega
  obtain ⟨c, hci, rfl⟩ := rL_at ht
  have hto := rTo_range h1 i
  have hk := rTy_kinds (n := n) (p := p) i c
  have hcal : calledB (rL n p cs) i (rTy n p i c) = true := by
    unfold calledB
    split
    · rename_i hnm
      have hnn : (rTy n p i c).name = letL i := by
        rcases hk with ⟨_, h, _⟩ | ⟨_, _, ⟨_, h, _⟩ | ⟨h, _⟩ | ⟨_, h, _⟩⟩
        · rw [h] at hnm; simp [namedB] at hnm
        · exact h
        · rw [h] at hnm; simp [namedB] at hnm
        · exact h
      rw [hnn, letL_name i (by omega), Bool.and_true, List.all_eq_true]
      intro u hu
      obtain ⟨j, hj, e⟩ := List.mem_iff_getElem.1 hu
      rw [List.length_take, rL_len] at hj
      have hj2 : (rL n p cs)[j]? = some u := by
        rw [← e, List.getElem_take]
        exact List.getElem?_eq_getElem _
      obtain ⟨d, _, rfl⟩ := rL_at hj2
      have hne : ¬ ((rTy n p j d).kind = (rTy n p i c).kind ∧ (rTy n p j d).name = letL i) := by
        rintro ⟨ha, hb⟩
        rw [← ha] at hnm
        have hkj := rTy_kinds (n := n) (p := p) j d
        have hnj : (rTy n p j d).name = letL j := by
          rcases hkj with ⟨_, h, _⟩ | ⟨_, _, ⟨_, h, _⟩ | ⟨h, _⟩ | ⟨_, h, _⟩⟩
          · rw [h] at hnm; simp [namedB] at hnm
          · exact h
          · rw [h] at hnm; simp [namedB] at hnm
          · exact h
        rw [hnj] at hb
        have := letL_inj j (by omega) i (by omega) hb
        omega
      cases hx : ((rTy n p j d).kind == (rTy n p i c).kind && (rTy n p j d).name == letL i) with
      | false => rfl
      | true =>
        rw [Bool.and_eq_true] at hx
        exact absurd ⟨eq_of_beq hx.1, eq_of_beq hx.2⟩ hne
    · rename_i hnm
      rcases hk with ⟨_, _, h, _⟩ | ⟨_, _, ⟨h, _⟩ | ⟨_, h, _⟩ | ⟨h, _⟩⟩
      · rw [h]; rfl
      · rw [h] at hnm; simp [namedB] at hnm
      · rw [h]; rfl
      · rw [h] at hnm; simp [namedB] at hnm
  have hmemb : membersB (rTy n p i c) = true := by
    unfold rTy
    split
    · rfl
    · split
      · rfl
      · split
        · rfl
        · unfold membersB
          simp only [List.length_singleton]
          show ([0].all _) = true
          simp [memOk]
          decide
  have hsz : sizedB (rTy n p i c) = true := by
    unfold rTy
    split
    · rfl
    · split
      · rfl
      · split <;> rfl
  have hwh : wholeB (rTy n p i c) (rL n p cs).length = true := by
    rw [rL_len, hc]
    unfold rTy
    split
    · have e1 : decide ((0 : Int) ≤ rTo n i) = true := decide_eq_true (by omega)
      have e2 : decide (rTo n i ≤ (n : Int)) = true := decide_eq_true (by omega)
      simp [wholeB, leastC, mostC]
      omega
    · split
      · simp [wholeB, leastC, mostC]
        omega
      · split
        · simp [wholeB, leastC, mostC]
          omega
        · simp [wholeB, leastC, mostC, memIn]
          omega
  have hkr : ¬ ((rTy n p i c).kind < 1 ∨ 6 < (rTy n p i c).kind) := by
    rcases hk with ⟨_, h, _⟩ | ⟨_, _, ⟨h, _⟩ | ⟨h, _⟩ | ⟨h, _⟩⟩ <;> rw [h] <;> omega
  unfold aloneC
  rw [if_neg hkr, if_neg (by rw [hcal]; simp), if_neg (by rw [hsz]; simp), if_neg (by rw [hmemb]; simp), if_neg (by rw [hwh]; simp)]
theorem r_succ (hc : cs.length = n) {i : Nat} (hi : i < n) : succL (rL n p cs) ((i : Int) + 1) = if (i : Int) = p then [] else [rTo n i] := by
  have ht : (rL n p cs)[i]? = some ((rL n p cs)[i]'(by rw [rL_len]; omega)) := List.getElem?_eq_getElem _
  obtain ⟨c, _, e⟩ := rL_at ht
  unfold succL
  rw [get_tyAt ht]
  simp only [e]
  rcases rTy_kinds (n := n) (p := p) i c with ⟨h1, _, _, h2⟩ | ⟨h1, h2, _⟩
  · rw [if_pos h1, h2]
  · rw [if_neg h1, h2]
/-- no pointer: one comes round -/
theorem r_round (hc : cs.length = n) (hn : 1 ≤ n) (hp : p < 0 ∨ (n : Int) ≤ p) : Reach (rL n p cs) 1 1 := by
  have hs : ∀ i : Nat, i < n → succL (rL n p cs) ((i : Int) + 1) = [rTo n i] := fun i hi => by
    rw [r_succ hc hi, if_neg (by omega)]
  have hto : ∀ k : Nat, k + 1 < n → rTo n k = ((k + 1 : Nat) : Int) + 1 := fun k hk => by
    unfold rTo
    rw [Nat.mod_eq_of_lt hk]
  have hlast : rTo n (n - 1) = 1 := by
    unfold rTo
    rw [show n - 1 + 1 = n by omega, Nat.mod_self]
    rfl
  have hend : Reach (rL n p cs) (((n - 1 : Nat) : Int) + 1) 1 := .one (by rw [hs _ (by omega), hlast]; simp)
  have hall : ∀ k : Nat, k < n → Reach (rL n p cs) (((n - 1 - k : Nat) : Int) + 1) 1 := by
    intro k
    induction k with
    | zero => exact fun _ => hend
    | succ k ih =>
      intro hk
      refine .more (b := ((n - 1 - k : Nat) : Int) + 1) ?_ (ih (by omega))
      rw [hs _ (by omega), hto _ (by omega), show n - 1 - (k + 1) + 1 = n - 1 - k by omega]
      simp
  have := hall (n - 1) (by omega)
  simpa using this
/-- steps up to the pointer -/
def rD (n : Nat) (p : Int) (a : Int) : Int := if a - 1 ≤ p then p - (a - 1) else p + n - (a - 1)
theorem r_step (hc : cs.length = n) (hp : 0 ≤ p) (hpn : p < n) {a b : Int} (h : b ∈ succL (rL n p cs) a) : 0 ≤ rD n p b ∧ rD n p b < rD n p a := by
  have hin : ∃ i : Nat, a = (i : Int) + 1 ∧ i < n := by
    unfold succL at h
    cases ht : tyAt (rL n p cs) a with
    | none => rw [ht] at h; cases h
    | some t =>
      obtain ⟨i, rfl, hi⟩ := tyAt_get ht
      exact ⟨i, rfl, by have := (List.getElem?_eq_some_iff.1 hi).1; rw [rL_len] at this; omega⟩
  obtain ⟨i, rfl, hi⟩ := hin
  rw [r_succ hc hi] at h
  split at h
  · cases h
  · rename_i hne
    simp only [List.mem_singleton] at h
    subst h
    by_cases hl : i + 1 < n
    · have : rTo n i = ((i + 1 : Nat) : Int) + 1 := by unfold rTo; rw [Nat.mod_eq_of_lt hl]
      rw [this]
      unfold rD
      constructor <;> (repeat' split) <;> omega
    · have : rTo n i = 1 := by unfold rTo; rw [show i + 1 = n by omega, Nat.mod_self]; rfl
      rw [this]
      unfold rD
      constructor <;> (repeat' split) <;> omega
theorem r_reach (hc : cs.length = n) (hp : 0 ≤ p) (hpn : p < n) {a b : Int} (h : Reach (rL n p cs) a b) : rD n p b < rD n p a := by
  induction h with
  | one h => exact (r_step hc hp hpn h).2
  | more h _ ih => have := (r_step hc hp hpn h).2; omega
theorem r_acyc (hc : cs.length = n) (hp : 0 ≤ p) (hpn : p < n) : Acyc (rL n p cs) := fun a h => by have := r_reach hc hp hpn h; omega
theorem r_size (hc : cs.length = n) (hn : 1 ≤ n) (h40 : n ≤ 40) (hp : 0 ≤ p) (hpn : p < n) : ∀ (f : Nat) (i : Nat), i < n → rD n p ((i : Int) + 1) ≤ f → sizeL (rL n p cs) ((i : Int) + 1) = 8 := by
  have hal := r_alone (p := p) (cs := cs) hn h40 hc
  have hcl := closed_of hal
  have hac := r_acyc (cs := cs) hc hp hpn
  intro f
  induction f with
  | zero =>
    intro i hi hf
    have hip : (i : Int) = p := by unfold rD at hf; split at hf <;> omega
    have ht : (rL n p cs)[i]? = some ((rL n p cs)[i]'(by rw [rL_len]; omega)) := List.getElem?_eq_getElem _
    obtain ⟨c, _, e⟩ := rL_at ht
    rw [e] at ht
    rcases rTy_kinds (n := n) (p := p) i c with ⟨h1, h2, _⟩ | ⟨h1, _⟩
    · rw [size_step hcl hac (t := rTy n p i c) (by rw [through_stop (get_tyAt ht) (by omega)]; exact get_tyAt ht), if_pos h2]
    · exact absurd hip h1
  | succ f ih =>
    intro i hi hf
    have ht : (rL n p cs)[i]? = some ((rL n p cs)[i]'(by rw [rL_len]; omega)) := List.getElem?_eq_getElem _
    obtain ⟨c, _, e⟩ := rL_at ht
    rw [e] at ht
    have hta := get_tyAt ht
    rcases rTy_kinds (n := n) (p := p) i c with ⟨h1, h2, _⟩ | ⟨h1, h2, hk⟩
    · rw [size_step hcl hac (t := rTy n p i c) (by rw [through_stop hta (by omega)]; exact hta), if_pos h2]
    · have hsu := r_succ (p := p) (cs := cs) hc hi
      rw [if_neg h1] at hsu
      have hto := rTo_range hn i
      have hst := r_step (cs := cs) hc hp hpn (a := (i : Int) + 1) (b := rTo n i) (by rw [hsu]; simp)
      have hnext : sizeL (rL n p cs) (rTo n i) = 8 := by
        have h3 : rTo n i = (((rTo n i - 1).toNat : Nat) : Int) + 1 := by omega
        rw [h3] at hst ⊢
        exact ih _ (by omega) (by omega)
      rcases hk with ⟨h5, _, h5t⟩ | ⟨h3, _, h3t, h3c⟩ | ⟨h4, _, h4s, _⟩
      · obtain ⟨u, hu, _⟩ := through_at hcl hac (id := rTo n i) hto.1 (by rw [rL_len]; omega)
        have hth : throughL (rL n p cs) ((i : Int) + 1) = throughL (rL n p cs) (rTo n i) := by rw [through_alias hcl hac hta h5, h5t]
        rw [size_step hcl hac (by rw [hth]; exact hu), ← size_step hcl hac hu]
        exact hnext
      · rw [size_step hcl hac (t := rTy n p i c) (by rw [through_stop hta (by omega)]; exact hta), if_neg (by omega), if_pos h3, h3c, h3t, hnext]
        rfl
      · rw [size_step hcl hac (t := rTy n p i c) (by rw [through_stop hta (by omega)]; exact hta), if_neg (by omega), if_neg (by omega), h4s]
theorem r_check (hc : cs.length = n) (hn : 1 ≤ n) (h40 : n ≤ 40) : checkL (rL n p cs) = if 0 ≤ p ∧ p < n then (0, 0) else (1, 42) := by
  have hal := r_alone (p := p) (cs := cs) hn h40 hc
  split
  · rename_i hp
    refine check_zero (by rw [rL_len]; omega) (fun t ht => by have := (rL_mem t ht).1; omega) hal (r_acyc hc hp.1 hp.2) (fun t ht => (rL_mem t ht).2.1) (fun i t ht => ?_)
    have hi : i < n := by have := (List.getElem?_eq_some_iff.1 ht).1; rw [rL_len] at this; omega
    have hsz := r_size (cs := cs) hc hn h40 hp.1 hp.2 (rD n p ((i : Int) + 1)).toNat i hi (by omega)
    obtain ⟨c, _, rfl⟩ := rL_at ht
    have hto := rTo_range hn i
    have hsz2 : sizeL (rL n p cs) (rTo n i) = 8 := by
      have h3 : rTo n i = (((rTo n i - 1).toNat : Nat) : Int) + 1 := by omega
      rw [h3]
      exact r_size hc hn h40 hp.1 hp.2 (rD n p (((rTo n i - 1).toNat : Int) + 1)).toNat _ (by omega) (by omega)
    unfold laidB
    rw [hsz]
    rcases rTy_kinds (n := n) (p := p) i c with ⟨_, h, _⟩ | ⟨_, _, ⟨h, _⟩ | ⟨h, _⟩ | ⟨h, _, hs, hm⟩⟩
    · rw [h]; rfl
    · rw [h]; rfl
    · rw [h]; rfl
    · rw [h, if_neg (by omega), if_pos rfl, hs, hm]
      simp only [laidM, hsz2]
      rfl
  · rename_i hp
    exact check_cycle (by rw [rL_len]; omega) (fun t ht => by have := (rL_mem t ht).1; omega) hal (by rw [rL_len]; omega) (r_round hc hn (by omega))
theorem r_next {i : Nat} {c : UInt8} (h : cs[i]? = some c) : rL n p (cs.take (i + 1)) = rL n p (cs.take i) ++ [rTy n p i c] := by
  have hi := (List.getElem?_eq_some_iff.1 h).1
  unfold rL
  rw [List.take_add_one, h, Option.toList_some, List.mapIdx_append]
  simp [Nat.min_eq_left (Nat.le_of_lt hi)]
theorem raw_r (h40 : cs.length ≤ 40) : Raw (rL n p cs) := by
  refine ⟨by rw [rL_len]; unfold maxLen; omega, fun t ht => by have := (rL_mem t ht).2.2.1; unfold maxLen; omega, fun t ht m hm => ?_, fun t ht m hm => ?_⟩
  · have := ((rL_mem t ht).2.2.2 m hm).1
    unfold maxLen
    omega
  · have := ((rL_mem t ht).2.2.2 m hm).2
    rw [this]
    decide
end

end Go.Proofs.YtmgdjiplpfeoiaaDoor
