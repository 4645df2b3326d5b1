import Derived.Test.YtlkgmcacbfoijaaGreatZbe
import Derived.Test.YtlkgmcacbfoijaaGreatGex
import Derived.Test.YtlkgmcacbfoijaaGreatGcx
set_option linter.unusedSimpArgs false
set_option linter.unusedVariables false
namespace Go.Proofs.YtlkgmcacbfoijaaGreat

/-! ### the document's table: plain -/
theorem plusN_eq {a b : Nat} (ha : a ≤ top) (hb : b ≤ top) : plusN a b = min (a + b) top := by
  unfold plusN
  unfold top at *
  split <;> omega
theorem timesN_eq (a b : Nat) : timesN a b = min (a * b) top := by
  unfold timesN
  by_cases hb : 0 < b
  · by_cases h : top / b < a
    · rw [if_pos ⟨hb, h⟩]
      have h1 : top < a * b := by
        rcases Nat.lt_or_ge top (a * b) with h2 | h2
        · exact h2
        · have := (Nat.le_div_iff_mul_le hb).2 h2
          omega
      omega
    · rw [if_neg (fun e => h e.2)]
      have h1 : a * b ≤ top := (Nat.le_div_iff_mul_le hb).1 (Nat.le_of_not_lt h)
      omega
  · rw [if_neg (fun e => hb e.1)]
    obtain rfl : b = 0 := by omega
    simp
theorem min_mul (p c T : Nat) : min (min p T * c) T = min (p * c) T := by
  rcases Nat.le_total p T with h | h
  · rw [Nat.min_eq_left h]
  · rw [Nat.min_eq_right h]
    rcases Nat.eq_zero_or_pos c with rfl | hc
    · simp
    · have h1 : T ≤ T * c := Nat.le_mul_of_pos_right T hc
      have h2 : T * c ≤ p * c := Nat.mul_le_mul_right c h
      omega
/-- what the three rules have -/
structure Fair (R : RuleP) : Prop where
  comm : ∀ a b, a ≤ top → b ≤ top → R.a a b = R.a b a
  assoc : ∀ a b c, a ≤ top → b ≤ top → c ≤ top → R.a (R.a a b) c = R.a a (R.a b c)
theorem plus_fair : (∀ a b, a ≤ top → b ≤ top → plusN a b = plusN b a) ∧ ∀ a b c, a ≤ top → b ≤ top → c ≤ top → plusN (plusN a b) c = plusN a (plusN b c) :=
  ⟨fun a b ha hb => by rw [plusN_eq ha hb, plusN_eq hb ha, Nat.add_comm], fun a b c ha hb hc => by
    rw [plusN_eq (plusN_top ha hb) hc, plusN_eq ha hb, plusN_eq ha (plusN_top hb hc), plusN_eq hb hc]
    omega⟩
theorem fair_long : Fair longR := ⟨plus_fair.1, plus_fair.2⟩
theorem fair_short : Fair shortR := ⟨plus_fair.1, plus_fair.2⟩
theorem fair_ways : Fair waysR := ⟨fun a b _ _ => by
    show timesN a b = timesN b a
    rw [timesN_eq, timesN_eq, Nat.mul_comm], fun a b c _ _ _ => by
    show timesN (timesN a b) c = timesN a (timesN b c)
    rw [timesN_eq (timesN a b) c, timesN_eq a b, timesN_eq a (timesN b c), timesN_eq b c, min_mul, Nat.mul_comm a (min (b * c) top), min_mul, Nat.mul_assoc, Nat.mul_comm (b * c) a]⟩
/-- what the document makes of the slots behind -/
def docM (R : RuleP) (V : Nat → Nat) (j : Int) (js : List Int) : Nat := js.foldl (fun m k => R.j m (V k.toNat)) (V j.toNat)
def docS (R : RuleP) (V : Nat → Nat) (i : Nat) (x : In) (m : Nat) : Nat := if subB x = true then R.a m (V ((i : Int) + 1 + x.imm).toNat) else m
def docV (R : RuleP) (V : Nat → Nat) (i : Nat) (x : In) : Nat := match nextC i x with
  | [] => 1
  | j :: js => R.a (docS R V i x (docM R V j js)) 1
theorem docM_top {R : RuleP} {V : Nat → Nat} (hV : ∀ i, V i ≤ top) (j : Int) (js : List Int) : docM R V j js ≤ top := by
  unfold docM
  have : ∀ (js : List Int) (m : Nat), m ≤ top → js.foldl (fun m k => R.j m (V k.toNat)) m ≤ top := by
    intro js
    induction js with
    | nil => exact fun m h => h
    | cons k js ih => exact fun m h => ih _ (R.tj _ _ h (hV _))
  exact this js _ (hV _)
theorem docS_top {R : RuleP} {V : Nat → Nat} (hV : ∀ i, V i ≤ top) {i : Nat} {x : In} {m : Nat} (hm : m ≤ top) : docS R V i x m ≤ top := by
  unfold docS
  split
  · exact R.ta _ _ hm (hV _)
  · exact hm
theorem one_top : 1 ≤ top := by unfold top; omega
theorem docV_top {R : RuleP} {V : Nat → Nat} (hV : ∀ i, V i ≤ top) (i : Nat) (x : In) : docV R V i x ≤ top := by
  unfold docV
  split
  · exact one_top
  · exact R.ta _ _ (docS_top hV (docM_top hV _ _)) one_top
theorem docV_nil {R : RuleP} {V : Nat → Nat} {i : Nat} {x : In} (h : nextC i x = []) : docV R V i x = 1 := by
  unfold docV; rw [h]
theorem docV_cons {R : RuleP} {V : Nat → Nat} {i : Nat} {x : In} {j : Int} {js : List Int} (h : nextC i x = j :: js) : docV R V i x = R.a (docS R V i x (docM R V j js)) 1 := by
  unfold docV; rw [h]
theorem nextC_nil {i : Nat} {x : In} (h : nextC i x = []) : subB x = false := by
  unfold nextC at h
  split at h
  · rename_i h1
    have : x.op = 149 := by simpa using h1
    unfold subB
    rw [this]
    rfl
  · split at h
    · cases h
    · split at h
      · cases h
      · split at h <;> cases h
theorem doc_eq {R : RuleP} (hR : Fair R) {V : Nat → Nat} (hV : ∀ i, V i ≤ top) (i : Nat) (x : In) : docV R V i x = nexC R V (calC R V i x) (nextC i x) := by
  have hl := next_len i x
  cases h : nextC i x with
  | nil =>
    rw [docV_nil h]
    unfold nexC calC
    rw [if_neg (by rw [nextC_nil h]; decide)]
  | cons j js =>
    rw [docV_cons h]
    have key : ∀ m, m ≤ top → R.a (docS R V i x m) 1 = R.a (calC R V i x) m := fun m hm => by
      unfold docS calC
      split
      · rw [hR.assoc _ _ _ hm (hV _) one_top, hR.comm (V _) 1 (hV _) one_top, hR.comm _ _ hm (R.ta _ _ one_top (hV _))]
      · exact hR.comm _ _ hm one_top
    rw [key _ (docM_top hV j js)]
    cases js with
    | nil => rfl
    | cons k r =>
      have hr : r = [] := by
        rw [h] at hl
        cases r with
        | nil => rfl
        | cons _ _ => simp at hl
      subst hr
      rfl
theorem docV_congr (R : RuleP) {V W : Nat → Nat} {i : Nat} {x : In} (h1 : ∀ j ∈ nextC i x, V j.toNat = W j.toNat) (h2 : subB x = true → V ((i : Int) + 1 + x.imm).toNat = W ((i : Int) + 1 + x.imm).toNat) : docV R V i x = docV R W i x := by
  cases h : nextC i x with
  | nil => rw [docV_nil h, docV_nil h]
  | cons j js =>
    rw [docV_cons h, docV_cons h]
    rw [h] at h1
    have hm : docM R V j js = docM R W j js := by
      unfold docM
      rw [h1 j (by simp)]
      have : ∀ (js : List Int) (m : Nat), (∀ k ∈ js, V k.toNat = W k.toNat) → js.foldl (fun m k => R.j m (V k.toNat)) m = js.foldl (fun m k => R.j m (W k.toNat)) m := by
        intro js
        induction js with
        | nil => exact fun m _ => rfl
        | cons k js ih =>
          intro m hk
          rw [List.foldl_cons, List.foldl_cons, hk k (by simp)]
          exact ih _ (fun y hy => hk y (by simp [hy]))
      exact this js _ (fun k hk => h1 k (by simp [hk]))
    rw [hm]
    unfold docS
    split
    · rename_i hs
      rw [h2 hs]
    · rfl
/-- the levels of slots -/
structure Lay (l : List In) (lam : Nat → Nat) : Prop where
  pos : ∀ i, Rch l i → 1 ≤ lam i ∧ lam i ≤ (partsL l).length
  next : ∀ (i : Nat) (x : In), Rch l i → l[i]? = some x → ∀ j ∈ nextC i x, i < j.toNat ∧ j.toNat < l.length ∧ lam j.toNat = lam i ∧ Rch l j.toNat ∧ 0 ≤ j
  sub : ∀ (i : Nat) (x : In), Rch l i → l[i]? = some x → subB x = true → lam ((i : Int) + 1 + x.imm).toNat < lam i ∧ Rch l ((i : Int) + 1 + x.imm).toNat ∧ 0 ≤ (i : Int) + 1 + x.imm
theorem lay_of {l : List In} (hz : checkI l = 0) (hb : ¬ HasBack l l.length) (hd : DepthOK (callsL l)) : ∃ lam, Lay l lam := by
  obtain ⟨r8, hR, h8⟩ := hd
  have hin := calls_in hz
  have hlev := lev_of hin hR h8
  have hsz := (check_parts hz).1
  have hcl : (callsL l).length = (partsL l).length := List.length_map _
  refine ⟨fun i => (lamF (callsL l) 8 (ofC (partsL l) i).toNat).toNat, ⟨fun i hr => ?_, fun i x hr hx j hj => ?_, fun i x hr hx hs => ?_⟩⟩
  · obtain ⟨hil, hsec⟩ := rch_ok hz hr
    obtain ⟨q, p, hp, hp1, hp2, hoi⟩ := part_ex hsz (t := (i : Int)) (by omega) (by omega)
    have hql : q < (callsL l).length := by
      rw [hcl]
      exact (List.getElem?_eq_some_iff.1 hp).1
    show 1 ≤ (lamF (callsL l) 8 (ofC (partsL l) i).toNat).toNat ∧ _
    rw [hoi, Int.toNat_natCast]
    have h1 := hlev.one q hql
    have h2 := lev_le hin hlev q hql
    rw [hcl] at h2
    omega
  · obtain ⟨hil, hsec⟩ := rch_ok hz hr
    obtain ⟨n, rfl, hn, _, hof⟩ := next_ok hz hx hsec hj
    rw [Int.toNat_natCast]
    have hlt : i < n := by
      rcases Nat.lt_or_ge i n with h | h
      · exact h
      · exact absurd ⟨i, hil, x, hx, hr, n, hj, by omega⟩ hb
    refine ⟨hlt, hn, ?_, .step hr (by rw [succ_at hx]; exact List.mem_append_left _ hj), Int.natCast_nonneg _⟩
    show (lamF (callsL l) 8 (ofC (partsL l) n).toNat).toNat = _
    rw [hof]
  · obtain ⟨hil, hsec⟩ := rch_ok hz hr
    have hcb : isCallB x = true := by
      unfold subB at hs
      unfold isCallB
      rw [hs]; rfl
    obtain ⟨n, e1, e2, e3, _⟩ := nam_ok hz hx hsec hcb
    have hnam : namC i x = some (n : Int) := by unfold namC; rw [if_pos hcb, e1]
    have hrn : Rch l n := .step hr (by rw [succ_at hx]; exact List.mem_append_right _ (by rw [hnam]; simp))
    rw [e1, Int.toNat_natCast]
    refine ⟨?_, hrn, Int.natCast_nonneg _⟩
    have hbeg := named_begin hz hx hr hnam
    obtain ⟨ho', k', hk2, hk3⟩ := idx_part hz e3 hbeg
    obtain ⟨q, p, hp, hp1, hp2, hoi⟩ := part_ex hsz (t := (i : Int)) (by omega) (by omega)
    have hql : q < (callsL l).length := by
      rw [hcl]
      exact (List.getElem?_eq_some_iff.1 hp).1
    have hrow : (callsL l).getD q [] = rowL l p := by
      unfold callsL
      rw [List.getD_eq_getElem?_getD, List.getElem?_map, hp]
      rfl
    have hmem : (k' : Int) ∈ rowL l p := mem_row.2 ⟨i, by omega, by omega, by
      unfold nmAt
      rw [hx]
      simp only [hnam]
      rw [@if_pos _ (Classical.propDecidable _) hr, ← ho', hk2]
      simp⟩
    have hlt := hlev.down q hql (k' : Int) (by rw [hrow]; exact hmem)
    have hone := hlev.one k' (by rw [hcl]; exact hk3)
    rw [Int.toNat_natCast] at hlt
    show (lamF (callsL l) 8 (ofC (partsL l) n).toNat).toNat < (lamF (callsL l) 8 (ofC (partsL l) i).toNat).toNat
    rw [hk2, hoi, Int.toNat_natCast, Int.toNat_natCast]
    omega
/-- what is right in a table, r rounds done, the slots from p on done in this one -/
structure Gd (l : List In) (V lam : Nat → Nat) (r p : Nat) (T : List Nat) : Prop where
  len : T.length = l.length
  hi : ∀ t ∈ T, t ≤ top
  ok : ∀ i, Rch l i → (lam i ≤ r ∨ (lam i ≤ r + 1 ∧ p ≤ i)) → T.getD i 0 = V i
theorem getD_top {T : List Nat} (h : ∀ t ∈ T, t ≤ top) (i : Nat) : T.getD i 0 ≤ top := by
  rw [List.getD_eq_getElem?_getD]
  cases e : T[i]? with
  | none => exact Nat.zero_le _
  | some t => exact h t (List.mem_of_getElem? e)
theorem Gd.start {l : List In} {V lam : Nat → Nat} (hl : Lay l lam) (hz : checkI l = 0) : Gd l V lam 0 l.length (List.replicate l.length 0) where
  len := by simp
  hi := fun t ht => by rw [List.eq_of_mem_replicate ht]; exact Nat.zero_le _
  ok := fun i hr h => by
    have h1 := hl.pos i hr
    have h2 := (rch_ok hz hr).1
    omega
theorem Gd.skip {l : List In} {V lam : Nat → Nat} {r p : Nat} {T : List Nat} (h : Gd l V lam r (p + 1) T) (hn : ¬ Rch l p) : Gd l V lam r p T where
  len := h.len
  hi := h.hi
  ok := fun i hr hh => h.ok i hr (by
    have : i ≠ p := fun e => hn (e ▸ hr)
    omega)
theorem Gd.next {l : List In} {V lam : Nat → Nat} {r : Nat} {T : List Nat} (h : Gd l V lam r 0 T) (hz : checkI l = 0) : Gd l V lam (r + 1) l.length T where
  len := h.len
  hi := h.hi
  ok := fun i hr hh => h.ok i hr (by
    have h2 := (rch_ok hz hr).1
    omega)
theorem Gd.step {R : RuleP} (hR : Fair R) {l : List In} {V lam rk : Nat → Nat} {r p : Nat} {T : List Nat} {x : In} (h : Gd l V lam r (p + 1) T) (hT : Tells R l V rk) (hl : Lay l lam) (hr : Rch l p) (hx : l[p]? = some x) :
    Gd l V lam r p (T.set p (docV R (fun i => T.getD i 0) p x)) where
  len := by rw [List.length_set]; exact h.len
  hi := fun t ht => by
    rcases List.mem_or_eq_of_mem_set ht with ht | rfl
    · exact h.hi t ht
    · exact docV_top (getD_top h.hi) p x
  ok := fun i hri hh => by
    have hpl := (List.getElem?_eq_some_iff.1 hx).1
    have hg : (T.set p (docV R (fun i => T.getD i 0) p x)).getD i 0 = if i = p then docV R (fun i => T.getD i 0) p x else T.getD i 0 := by
      rw [List.getD_eq_getElem?_getD, List.getD_eq_getElem?_getD, List.getElem?_set]
      by_cases e : p = i
      · subst e
        rw [if_pos rfl, if_pos (by rw [h.len]; exact hpl), if_pos rfl]
        rfl
      · rw [if_neg e, if_neg (fun e2 => e e2.symm)]
    rw [hg]
    by_cases e : i = p
    · subst e
      rw [if_pos rfl, hT.val i x hri hx, ← doc_eq hR hT.hi]
      refine docV_congr R (fun j hj => ?_) (fun hs => ?_)
      · have h1 := hl.next i x hri hx j hj
        exact h.ok _ h1.2.2.2.1 (by omega)
      · have h1 := hl.sub i x hri hx hs
        exact h.ok _ h1.2.1 (by omega)
    · rw [if_neg e]
      exact h.ok i hri (by omega)
theorem Gd.all {l : List In} {V lam : Nat → Nat} {p : Nat} {T : List Nat} (h : Gd l V lam (partsL l).length p T) (hl : Lay l lam) : ∀ i, Rch l i → T.getD i 0 = V i :=
  fun i hr => h.ok i hr (.inl (hl.pos i hr).2)

end Go.Proofs.YtlkgmcacbfoijaaGreat

