import Derived.Test.YtdchmelgaljpfaaGreatMem
set_option linter.unusedSimpArgs false
set_option linter.unusedVariables false
namespace Go.Proofs.YtdchmelgaljpfaaGreat

/-! ### rows of what is known, in plain: the most that may be known -/
abbrev KR := List (Option Nat)
/-- a row that knows no more than another -/
def LeR (a b : KR) : Prop := a.length = b.length ∧ ∀ (i : Nat) (v : Nat), a[i]? = some (some v) → b[i]? = some (some v)
/-- of a slot that wasn't met nothing is said -/
def LeO : Option KR → Option KR → Prop
  | _, none => True
  | none, some _ => False
  | some a, some b => LeR a b
def meetR (a b : KR) : KR := List.zipWith (fun x y => if x = y then x else none) a b
def meetO (a : Option KR) (b : KR) : KR := match a with
  | none => b
  | some a => meetR a b

theorem LeR.refl (a : KR) : LeR a a := ⟨rfl, fun _ _ h => h⟩
theorem LeR.trans {a b c : KR} (h : LeR a b) (h2 : LeR b c) : LeR a c := ⟨h.1.trans h2.1, fun i v hv => h2.2 i v (h.2 i v hv)⟩
theorem LeR.antisymm {a b : KR} (h : LeR a b) (h2 : LeR b a) : a = b := by
  apply List.ext_getElem?
  intro i
  by_cases hi : i < a.length
  · have hib : i < b.length := by rw [← h.1]; exact hi
    rw [List.getElem?_eq_getElem hi, List.getElem?_eq_getElem hib]
    cases ha : a[i] with
    | some v =>
      have := h.2 i v (by rw [List.getElem?_eq_getElem hi, ha])
      rw [List.getElem?_eq_getElem hib] at this
      exact this.symm
    | none =>
      cases hb : b[i] with
      | none => rfl
      | some v =>
        have := h2.2 i v (by rw [List.getElem?_eq_getElem hib, hb])
        rw [List.getElem?_eq_getElem hi, ha] at this
        cases this
  · rw [List.getElem?_eq_none (by omega), List.getElem?_eq_none (by have := h.1; omega)]
theorem LeO.refl : ∀ a : Option KR, LeO a a
  | none => trivial
  | some a => LeR.refl a
theorem LeO.trans : ∀ {a b c : Option KR}, LeO a b → LeO b c → LeO a c
  | _, _, none, _, _ => trivial
  | none, none, some _, _, h => h.elim
  | some _, none, some _, _, h => h.elim
  | none, some _, some _, h, _ => h.elim
  | some _, some _, some _, h, h2 => LeR.trans h h2
theorem LeO.antisymm : ∀ {a b : Option KR}, LeO a b → LeO b a → a = b
  | none, none, _, _ => rfl
  | none, some _, h, _ => h.elim
  | some _, none, _, h => h.elim
  | some _, some _, h, h2 => congrArg some (LeR.antisymm h h2)
theorem meetR_len {a b : KR} (h : a.length = b.length) : (meetR a b).length = a.length := by
  unfold meetR
  rw [List.length_zipWith]
  omega
theorem meetR_get {a b : KR} (i : Nat) {x y : Option Nat} (ha : a[i]? = some x) (hb : b[i]? = some y) : (meetR a b)[i]? = some (if x = y then x else none) := by
  unfold meetR
  rw [List.getElem?_zipWith, ha, hb]
theorem meetR_left {a b : KR} (h : a.length = b.length) : LeR (meetR a b) a := ⟨meetR_len h, fun i v hv => by
  have hi : i < (meetR a b).length := (List.getElem?_eq_some_iff.1 hv).1
  rw [meetR_len h] at hi
  have ha := List.getElem?_eq_getElem hi
  have hb := List.getElem?_eq_getElem (l := b) (i := i) (by omega)
  rw [meetR_get i ha hb] at hv
  rw [ha]
  simp only [Option.some.injEq] at hv ⊢
  split at hv
  · exact hv
  · cases hv⟩
theorem meetR_right {a b : KR} (h : a.length = b.length) : LeR (meetR a b) b := ⟨(meetR_len h).trans h, fun i v hv => by
  have hi : i < (meetR a b).length := (List.getElem?_eq_some_iff.1 hv).1
  rw [meetR_len h] at hi
  have ha := List.getElem?_eq_getElem hi
  have hb := List.getElem?_eq_getElem (l := b) (i := i) (by omega)
  rw [meetR_get i ha hb] at hv
  rw [hb]
  simp only [Option.some.injEq] at hv ⊢
  split at hv
  · rename_i e; rw [← e]; exact hv
  · cases hv⟩
theorem meetR_most {a b c : KR} (ha : LeR c a) (hb : LeR c b) : LeR c (meetR a b) := ⟨by rw [meetR_len (ha.1.symm.trans hb.1)]; exact ha.1, fun i v hv => by
  rw [meetR_get i (ha.2 i v hv) (hb.2 i v hv)]
  simp⟩
theorem meetR_same {a b : KR} (h : LeR a b) : meetR a b = a := LeR.antisymm (meetR_left h.1) (meetR_most (LeR.refl a) h)
theorem le_meetO {c a : Option KR} {b : KR} (h : LeO c a) (hb : LeO c (some b)) : LeO c (some (meetO a b)) := by
  cases a with
  | none => exact hb
  | some a =>
    cases c with
    | none => exact h.elim
    | some c => exact meetR_most h hb

/-- what a program's flow is, for the numbers: how many slots, the next ones, what is known behind one, the first ones -/
structure Flw where
  n : Nat
  next : Nat → List Nat
  beh : Nat → KR → KR
  first : Nat → Prop
/-- a solution -/
structure Flw.Sol (f : Flw) (V : List (Option KR)) : Prop where
  len : V.length = f.n
  st : ∀ i, f.first i → V[i]? = some (some (List.replicate 11 none))
  step : ∀ (i : Nat) (r : KR), V[i]? = some (some r) → ∀ j ∈ f.next i, ∃ v, V[j]? = some v ∧ LeO v (some (f.beh i r))
/-- above all solutions -/
structure Flw.Top (f : Flw) (V : List (Option KR)) : Prop where
  len : V.length = f.n
  top : ∀ U, f.Sol U → ∀ (i : Nat) (u v : Option KR), U[i]? = some u → V[i]? = some v → LeO u v
structure Flw.Ok (f : Flw) : Prop where
  mono : ∀ (i : Nat) (a b : KR), LeR a b → LeR (f.beh i a) (f.beh i b)
  len : ∀ (i : Nat) (a : KR), a.length = 11 → (f.beh i a).length = 11
theorem Flw.unique {f : Flw} {U V : List (Option KR)} (hU : f.Sol U) (hV : f.Sol V) (tU : f.Top U) (tV : f.Top V) : U = V := by
  apply List.ext_getElem?
  intro i
  by_cases hi : i < f.n
  · have hu := List.getElem?_eq_getElem (l := U) (i := i) (by rw [hU.len]; exact hi)
    have hv := List.getElem?_eq_getElem (l := V) (i := i) (by rw [hV.len]; exact hi)
    have h1 := tV.top U hU i _ _ hu hv
    have h2 := tU.top V hV i _ _ hv hu
    rw [hu, hv, LeO.antisymm h1 h2]
  · rw [List.getElem?_eq_none (by rw [hU.len]; omega), List.getElem?_eq_none (by rw [hV.len]; omega)]
/-- one edge -/
theorem Flw.Top.set {f : Flw} (ok : f.Ok) {V : List (Option KR)} (h : f.Top V) {i j : Nat} {r : KR} {v : Option KR} (hi : V[i]? = some (some r)) (hn : j ∈ f.next i) (hj : V[j]? = some v) : f.Top (V.set j (some (meetO v (f.beh i r)))) := by
  refine ⟨by rw [List.length_set]; exact h.len, fun U hU k u w hu hw => ?_⟩
  rw [List.getElem?_set] at hw
  split at hw
  · rename_i e
    subst e
    split at hw
    · cases hw
      have h1 := h.top U hU j u v hu hj
      have hui := List.getElem?_eq_getElem (l := U) (i := i) (by rw [hU.len, ← h.len]; exact (List.getElem?_eq_some_iff.1 hi).1)
      have h2 := h.top U hU i _ _ hui hi
      cases hUi : U[i]'(by rw [hU.len, ← h.len]; exact (List.getElem?_eq_some_iff.1 hi).1) with
      | none => rw [hUi] at h2; exact h2.elim
      | some a =>
        rw [hUi] at h2 hui
        obtain ⟨u', hu', hle⟩ := hU.step i a hui j hn
        rw [hu] at hu'
        cases hu'
        exact le_meetO h1 (LeO.trans hle (ok.mono i a r h2))
    · cases hw
  · exact h.top U hU k u w hu hw
/-- how much is still to be lost -/
def sizeO : Option KR → Nat
  | none => 12
  | some r => (r.filter (·.isSome)).length
def sizeT (V : List (Option KR)) : Nat := (V.map sizeO).foldr (· + ·) 0
theorem filter_le {a b : KR} (h : LeR a b) : (a.filter (·.isSome)).length ≤ (b.filter (·.isSome)).length ∧ ((a.filter (·.isSome)).length = (b.filter (·.isSome)).length → a = b) := by
  obtain ⟨hl, hh⟩ := h
  induction a generalizing b with
  | nil =>
    cases b with
    | nil => exact ⟨Nat.le_refl _, fun _ => rfl⟩
    | cons y b => simp at hl
  | cons x a ih =>
    cases b with
    | nil => simp at hl
    | cons y b =>
      have ih' := ih (b := b) (by simpa using hl) (fun i v hv => by have := hh (i + 1) v (by simpa using hv); simpa using this)
      have h0 : ∀ v, x = some v → y = some v := fun v hv => by have := hh 0 v (by simp [hv]); simpa using this
      cases x with
      | none =>
        cases y with
        | none =>
          simp only [List.filter_cons, Option.isSome_none]
          exact ⟨by simpa using ih'.1, fun e => by rw [ih'.2 (by simpa using e)]⟩
        | some v =>
          simp only [List.filter_cons, Option.isSome_none, Option.isSome_some]
          simp only [Bool.false_eq_true, ↓reduceIte, List.length_cons]
          exact ⟨by omega, fun e => by omega⟩
      | some v =>
        obtain rfl := h0 v rfl
        simp only [List.filter_cons, Option.isSome_some, ↓reduceIte, List.length_cons]
        exact ⟨by omega, fun e => by rw [ih'.2 (by omega)]⟩
theorem sizeO_lt {v : Option KR} {b : KR} (hb : b.length = 11) (hv : ∀ r, v = some r → r.length = 11) (hne : some (meetO v b) ≠ v) : sizeO (some (meetO v b)) < sizeO v := by
  cases v with
  | none =>
    show (b.filter (·.isSome)).length < 12
    have := List.length_filter_le (·.isSome) b
    omega
  | some r =>
    have hr := hv r rfl
    have h1 := filter_le (meetR_left (a := r) (b := b) (by omega))
    show ((meetR r b).filter (·.isSome)).length < (r.filter (·.isSome)).length
    rcases Nat.lt_or_ge ((meetR r b).filter (·.isSome)).length (r.filter (·.isSome)).length with h | h
    · exact h
    · exact absurd (congrArg some (h1.2 (by omega))) hne
theorem sizeT_set {V : List (Option KR)} {j : Nat} {v u : Option KR} (hj : V[j]? = some v) : sizeT (V.set j u) + sizeO v = sizeT V + sizeO u := by
  induction V generalizing j with
  | nil => simp at hj
  | cons y V ih =>
    cases j with
    | zero =>
      simp only [List.getElem?_cons_zero, Option.some.injEq] at hj
      subst hj
      simp only [List.set_cons_zero, sizeT, List.map_cons, List.foldr_cons]
      omega
    | succ j =>
      have := ih (j := j) (by simpa using hj)
      simp only [List.set_cons_succ, sizeT, List.map_cons, List.foldr_cons] at this ⊢
      omega
theorem sizeT_le : ∀ (V : List (Option KR)), (∀ v ∈ V, ∀ r, v = some r → r.length = 11) → sizeT V ≤ 12 * V.length
  | [], _ => Nat.le_refl _
  | y :: V, h => by
    have := sizeT_le V (fun v hv => h v (List.mem_cons_of_mem _ hv))
    have hy : sizeO y ≤ 12 := by
      cases y with
      | none => exact Nat.le_refl _
      | some r =>
        have h1 := h (some r) (List.mem_cons_self ..) r rfl
        have h2 := List.length_filter_le (·.isSome) r
        show (r.filter (·.isSome)).length ≤ 12
        omega
    simp only [sizeT, List.map_cons, List.foldr_cons, List.length_cons] at this ⊢
    omega

end Go.Proofs.YtdchmelgaljpfaaGreat
