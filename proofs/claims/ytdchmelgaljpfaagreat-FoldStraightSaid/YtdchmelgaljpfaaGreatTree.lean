import Derived.Test.YtdchmelgaljpfaaGreatMix
set_option linter.unusedSimpArgs false
set_option linter.unusedVariables false
namespace Go.Proofs.YtdchmelgaljpfaaGreat

/-! A drawing region in which several operations of kind k or t stand in no order: each of them may come first; the light ones (kinds w and l) go where they are wanted. -/

def light : Kd → Bool
  | .w | .l => true
  | _ => false

/-- all that an operation waits for, through others -/
def ancT (ops : List Oper) : List (List Nat) :=
  ops.foldl (fun tb o => tb ++ [o.after.toList.foldl (fun acc e => if Region.binds .any e then (e.on :: tb.getD e.on []).foldl (fun acc x => if acc.contains x then acc else x :: acc) acc else acc) []]) []

def isLight (ks : List Kd) (i : Nat) : Bool := match ks[i]? with | some kd => light kd | none => true

def tableB (A : List (List Nat)) (ops : Array Oper) : Bool :=
  (List.range ops.size).all fun j => match ops[j]? with
    | some oj =>
      (oj.after.all fun e => !Region.binds .any e || (decide (e.on < j) && (A.getD j []).contains e.on && (A.getD e.on []).all fun i => (A.getD j []).contains i)) &&
      (A.getD j []).all fun i => oj.after.any fun e => Region.binds .any e && (e.on == i || (A.getD e.on []).contains i)
    | none => true

def treeB (ks : List Kd) (A : List (List Nat)) (ops : Array Oper) : Bool :=
  ks.length == ops.size && Region.noSelect ops && tableB A ops &&
  (List.range ops.size).all fun j => match ops[j]?, ks[j]? with
    | some oj, some kj => okKd kj oj &&
      (List.range j).all fun i => match ops[i]?, ks[i]? with
        | some oi, some ki => (A.getD j []).contains i || (!light ki && !light kj) || (pairOk ki kj && oi.apart ops oj)
        | _, _ => false
    | _, _ => false

/-- the heavy ones that may come first -/
def firsts (ks : List Kd) (A : List (List Nat)) (U : List Nat) : List Nat :=
  U.filter fun x => !isLight ks x && U.all fun i => isLight ks i || !(A.getD x []).contains i
def seg (A : List (List Nat)) (x : Nat) (U : List Nat) : List Nat := U.filter fun i => i == x || (A.getD x []).contains i
def rst (A : List (List Nat)) (x : Nat) (U : List Nat) : List Nat := U.filter fun i => !(i == x || (A.getD x []).contains i)

section
variable {P : Program} {ops : Array Oper} {C : World → Prop}

/-- the rest of a region, as a tree -/
def Tr (P : Program) (ops : Array Oper) (C : World → Prop) (ks : List Kd) (A : List (List Nat)) (K : Act → World → Prop) : Nat → List Nat → Act → World → Prop
  | 0, U, a, w => mixI P ops C ks K U a w
  | n + 1, U, a, w => if U.all (isLight ks) then mixI P ops C ks K U a w else ∀ x ∈ firsts ks A U, mixI P ops C ks (Tr P ops C ks A K n (rst A x U)) (seg A x U) a w

theorem mixI_mono {ks : List Kd} {K K' : Act → World → Prop} (h : ∀ a w, K a w → K' a w) : ∀ (U : List Nat) (a : Act) (w : World), mixI P ops C ks K U a w → mixI P ops C ks K' U a w
  | [], a, w, hh => h a w hh
  | i :: r, a, w, hh => by
    simp only [mixI] at hh ⊢
    cases ho : ops[i]? with
    | none => simp only [ho] at hh ⊢; exact mixI_mono h r a w hh
    | some o =>
      cases hk : ks[i]? with
      | none => simp only [ho, hk] at hh ⊢; exact mixI_mono h r a w hh
      | some kd => simp only [ho, hk] at hh ⊢; exact stepV_mono (mixI_mono h r) hh

theorem mixI_append {ks : List Kd} {K : Act → World → Prop} : ∀ (U V : List Nat) (a : Act) (w : World), mixI P ops C ks (mixI P ops C ks K V) U a w ↔ mixI P ops C ks K (U ++ V) a w
  | [], V, a, w => by simp [mixI]
  | i :: r, V, a, w => by
    simp only [List.cons_append, mixI]
    cases ops[i]? with
    | none => exact mixI_append r V a w
    | some o =>
      cases ks[i]? with
      | none => exact mixI_append r V a w
      | some kd => exact ⟨stepV_mono fun a w h => (mixI_append r V a w).1 h, stepV_mono fun a w h => (mixI_append r V a w).2 h⟩

/-- a light step, for a whole family -/
theorem stepV_all {kd : Kd} {o : Oper} (hk : light kd = true) {S : List Nat} (hS : S ≠ []) {K : Nat → Act → World → Prop} {a : Act} {w : World} (h : ∀ x ∈ S, stepV P ops C kd o (K x) a w) :
    stepV P ops C kd o (fun a w => ∀ x ∈ S, K x a w) a w := by
  cases S with
  | nil => exact absurd rfl hS
  | cons s S =>
    have h0 := h s (List.mem_cons_self ..)
    unfold stepV at h h0 ⊢
    split
    · rename_i hw
      simp only [hw, if_true] at h h0
      cases kd with
      | w =>
        obtain ⟨v, hv, _⟩ := h0
        refine ⟨v, hv, fun x hx => ?_⟩
        obtain ⟨u, hu, hK⟩ := h x hx
        rw [Vals.uniq hv hu (w := w) trivial]
        exact hK
      | l =>
        obtain ⟨hC, v, hv, _⟩ := h0
        refine ⟨hC, v, hv, fun x hx => ?_⟩
        obtain ⟨_, u, hu, hK⟩ := h x hx
        rw [Vals.uniq hv hu hC]
        exact hK
      | k => cases hk
      | t => cases hk
    · rename_i hw
      simp only [hw] at h
      exact fun x hx => h x hx

structure TreeOk (P : Program) (ops : Array Oper) (ks : List Kd) (A : List (List Nat)) : Prop where
  len : ks.length = ops.size
  sel : ∀ (j : Nat) (o : Oper) cs b, ops[j]? = some o → o.op ≠ .select cs b
  lt : ∀ j oj, ops[j]? = some oj → ∀ e ∈ oj.after, Region.binds .any e = true → e.on < j
  edge : ∀ j oj, ops[j]? = some oj → ∀ e ∈ oj.after, Region.binds .any e = true → e.on ∈ A.getD j [] ∧ ∀ i ∈ A.getD e.on [], i ∈ A.getD j []
  sound : ∀ j oj, ops[j]? = some oj → ∀ i ∈ A.getD j [], ∃ e ∈ oj.after, Region.binds .any e = true ∧ (e.on = i ∨ i ∈ A.getD e.on [])
  pair : ∀ i j oi oj ki kj, i < j → ops[i]? = some oi → ops[j]? = some oj → ks[i]? = some ki → ks[j]? = some kj → i ∈ A.getD j [] ∨ (light ki = false ∧ light kj = false) ∨ (pairOk ki kj = true ∧ oi.apart ops oj = true)

theorem treeOk {ks : List Kd} {A : List (List Nat)} (h : treeB ks A ops = true) : TreeOk P ops ks A ∧ (∀ (j : Nat) (o : Oper) kd, ops[j]? = some o → ks[j]? = some kd → okKd kd o = true) := by
  simp only [treeB, Bool.and_eq_true, List.all_eq_true, List.mem_range, beq_iff_eq] at h
  obtain ⟨⟨⟨hlen, hsel⟩, htb⟩, hB⟩ := h
  simp only [tableB, List.all_eq_true, List.mem_range] at htb
  refine ⟨⟨hlen, fun j o cs b => Region.noSelect_spec hsel j o cs b, fun j oj hoj e he hb => ?_, fun j oj hoj e he hb => ?_, fun j oj hoj i hi => ?_, fun i j oi oj ki kj hij hoi hoj hki hkj => ?_⟩, fun j o kd ho hk => ?_⟩
  · have := htb j (Array.getElem?_eq_some_iff.1 hoj).1
    simp only [hoj, Bool.and_eq_true, Array.all_eq_true_iff_forall_mem] at this
    have := this.1 e he
    simp only [hb, Bool.not_true, Bool.false_or, Bool.and_eq_true, decide_eq_true_eq] at this
    exact this.1.1
  · have := htb j (Array.getElem?_eq_some_iff.1 hoj).1
    simp only [hoj, Bool.and_eq_true, Array.all_eq_true_iff_forall_mem] at this
    have := this.1 e he
    simp only [hb, Bool.not_true, Bool.false_or, Bool.and_eq_true, decide_eq_true_eq, List.all_eq_true, List.contains_iff_mem] at this
    exact ⟨this.1.2, this.2⟩
  · have := htb j (Array.getElem?_eq_some_iff.1 hoj).1
    simp only [hoj, Bool.and_eq_true, List.all_eq_true] at this
    obtain ⟨e, he, hb⟩ := Array.any_eq_true'.1 (this.2 i hi)
    simp only [Bool.and_eq_true, Bool.or_eq_true, beq_iff_eq, List.contains_iff_mem] at hb
    exact ⟨e, he, hb.1, hb.2⟩
  · have := hB j (Array.getElem?_eq_some_iff.1 hoj).1
    simp only [hoj, hkj, Bool.and_eq_true, List.all_eq_true, List.mem_range] at this
    have := this.2 i hij
    simp only [hoi, hki, Bool.or_eq_true, Bool.and_eq_true, Bool.not_eq_true', List.contains_iff_mem] at this
    rcases this with (h | h) | h
    · exact .inl h
    · exact .inr (.inl h)
    · exact .inr (.inr h)
  · have := hB j (Array.getElem?_eq_some_iff.1 ho).1
    simp only [ho, hk, Bool.and_eq_true] at this
    exact this.1

variable {ks : List Kd} {A : List (List Nat)}

theorem TreeOk.anc_listed (T : TreeOk P ops ks A) {listed : Array Bool} (hcl : ∀ j oj, ops[j]? = some oj → listed.getD j false = true → ∀ e ∈ oj.after, Region.binds .any e = true → listed.getD e.on false = true) :
    ∀ (n j : Nat) (oj : Oper), j ≤ n → ops[j]? = some oj → (∀ e ∈ oj.after, Region.binds .any e = true → listed.getD e.on false = true) → ∀ i ∈ A.getD j [], listed.getD i false = true
  | n, j, oj, hn, hoj, hd, i, hi => by
    obtain ⟨e, he, hb, h⟩ := T.sound j oj hoj i hi
    have hl := hd e he hb
    rcases h with rfl | h
    · exact hl
    · have hlt := T.lt j oj hoj e he hb
      have hes : e.on < ops.size := Nat.lt_trans hlt (Array.getElem?_eq_some_iff.1 hoj).1
      have hoe : ops[e.on]? = some ops[e.on] := Array.getElem?_eq_getElem hes
      cases n with
      | zero => omega
      | succ n => exact T.anc_listed hcl n e.on _ (by omega) hoe (hcl e.on _ hoe hl) i h

theorem TreeOk.trans (T : TreeOk P ops ks A) {p : Nat} : ∀ (n x z : Nat), x ≤ n → x < ops.size → z ∈ A.getD x [] → p ∈ A.getD z [] → p ∈ A.getD x []
  | n, x, z, hn, hx, hz, hp => by
    have hox : ops[x]? = some ops[x] := Array.getElem?_eq_getElem hx
    obtain ⟨e, he, hb, h⟩ := T.sound x _ hox z hz
    obtain ⟨e1, e2⟩ := T.edge x _ hox e he hb
    have hlt := T.lt x _ hox e he hb
    rcases h with rfl | h
    · exact e2 p hp
    · cases n with
      | zero => omega
      | succ n => exact e2 p (T.trans n e.on z (by omega) (by omega) h hp)

theorem TreeOk.anc_lt (T : TreeOk P ops ks A) : ∀ (n x i : Nat), x ≤ n → x < ops.size → i ∈ A.getD x [] → i < x
  | n, x, i, hn, hx, hi => by
    have hox : ops[x]? = some ops[x] := Array.getElem?_eq_getElem hx
    obtain ⟨e, he, hb, h⟩ := T.sound x _ hox i hi
    have hlt := T.lt x _ hox e he hb
    rcases h with rfl | h
    · exact hlt
    · cases n with
      | zero => omega
      | succ n => have := T.anc_lt n e.on i (by omega) (by omega) h; omega

/-- two that may change places, in whatever order they stand in the text -/
theorem TreeOk.swap (T : TreeOk P ops ks A) {z y : Nat} {oz oy : Oper} {kz ky : Kd} (hne : z ≠ y) (hoz : ops[z]? = some oz) (hoy : ops[y]? = some oy) (hkz : ks[z]? = some kz) (hky : ks[y]? = some ky) (hl : light ky = true)
    (h1 : z ∉ A.getD y []) (h2 : y ∉ A.getD z []) : pairOk kz ky = true ∧ oz.apart ops oy = true := by
  rcases Nat.lt_or_ge z y with h | h
  · rcases T.pair z y oz oy kz ky h hoz hoy hkz hky with h | h | h
    · exact absurd h h1
    · rw [hl] at h; cases h.2
    · exact h
  · rcases T.pair y z oy oz ky kz (by omega) hoy hoz hky hkz with h | h | h
    · exact absurd h h2
    · rw [hl] at h; cases h.1
    · refine ⟨?_, apart_symm h.2⟩
      have := h.1
      cases ky <;> cases kz <;> simp_all [pairOk]

theorem firsts_ne (T : TreeOk P ops ks A) {U : List Nat} (hs : U.Pairwise (· < ·)) (hU : ∀ i ∈ U, i < ops.size) (h : ¬ U.all (isLight ks) = true) : firsts ks A U ≠ [] := by
  have : ∃ x ∈ U, isLight ks x = false := by
    simp only [List.all_eq_true] at h
    rcases Classical.em (∃ x ∈ U, isLight ks x = false) with h2 | h2
    · exact h2
    · exfalso
      refine h fun x hx => ?_
      cases hx2 : isLight ks x with
      | true => rfl
      | false => exact absurd ⟨x, hx, hx2⟩ h2
  have key : ∀ n x, x ≤ n → x ∈ U → isLight ks x = false → ∃ y ∈ U, isLight ks y = false ∧ ∀ i ∈ U, isLight ks i = true ∨ i ∉ A.getD y [] := by
    intro n
    induction n with
    | zero =>
      intro x hn hx hl
      refine ⟨x, hx, hl, fun i hi => .inr fun hm => ?_⟩
      have := T.anc_lt x x i (Nat.le_refl _) (hU x hx) hm
      omega
    | succ n ih =>
      intro x hn hx hl
      rcases Classical.em (∃ i ∈ U, isLight ks i = false ∧ i ∈ A.getD x []) with ⟨i, hi, h1, h2⟩ | h2
      · have := T.anc_lt x x i (Nat.le_refl _) (hU x hx) h2
        exact ih i (by omega) hi h1
      · refine ⟨x, hx, hl, fun i hi => ?_⟩
        cases hi2 : isLight ks i with
        | true => exact .inl rfl
        | false => exact .inr fun hm => h2 ⟨i, hi, hi2, hm⟩
  obtain ⟨x, hx, hl⟩ := this
  obtain ⟨y, hy, hyl, hya⟩ := key x x (Nat.le_refl _) hx hl
  intro he
  have : y ∈ firsts ks A U := by
    unfold firsts
    simp only [List.mem_filter, Bool.and_eq_true, Bool.not_eq_true', List.all_eq_true, Bool.or_eq_true]
    refine ⟨hy, hyl, fun i hi => ?_⟩
    rcases hya i hi with h | h
    · exact .inl h
    · exact .inr (by simpa using h)
  rw [he] at this
  cases this

theorem mixI_light_pull (T : TreeOk P ops ks A) {K : Act → World → Prop} {y : Nat} {oy : Oper} {ky : Kd} (hoy : ops[y]? = some oy) (hky : ks[y]? = some ky) (hl : light ky = true)
    (pre post : List Nat) (hne : y ∉ pre) (h1 : ∀ z ∈ pre, z ∉ A.getD y []) (h2 : ∀ z ∈ pre, y ∉ A.getD z []) (a : Act) (w : World) (h : mixI P ops C ks K (pre ++ y :: post) a w) :
    stepV P ops C ky oy (mixI P ops C ks K (pre ++ post)) a w :=
  mixI_pull hoy hky T.sel pre post (fun z hz oz kz hoz hkz => T.swap (fun e => hne (by rw [← e]; exact hz)) hoz hoy hkz hky hl (h1 z hz) (h2 z hz)) a w h

theorem filter_split {p : Nat → Bool} {U : List Nat} {y : Nat} (hy : y ∈ U) (hp : p y = true) (hs : U.Pairwise (· < ·)) :
    ∃ pre post, U.filter p = pre ++ y :: post ∧ (U.filter (· != y)).filter p = pre ++ post ∧ (∀ z ∈ pre, z ∈ U ∧ z < y) := by
  obtain ⟨u1, u2, rfl⟩ := List.append_of_mem hy
  have hpw := List.pairwise_append.1 hs
  have n1 : ∀ z ∈ u1, z < y := fun z hz => hpw.2.2 z hz y (List.mem_cons_self ..)
  have n2 : ∀ z ∈ u2, y < z := fun z hz => List.rel_of_pairwise_cons hpw.2.1 hz
  refine ⟨u1.filter p, u2.filter p, ?_, ?_, fun z hz => ?_⟩
  · rw [List.filter_append, List.filter_cons, if_pos hp]
  · have e1 : u1.filter (· != y) = u1 := List.filter_eq_self.2 fun z hz => by have := n1 z hz; simp; omega
    have e2 : u2.filter (· != y) = u2 := List.filter_eq_self.2 fun z hz => by have := n2 z hz; simp; omega
    rw [List.filter_append, List.filter_cons, if_neg (by simp), e1, e2, List.filter_append]
  · have := (List.mem_filter.1 hz).1
    exact ⟨List.mem_append_left _ this, n1 z this⟩

theorem filter_ne_split {pre post : List Nat} {y : Nat} (hs : (pre ++ y :: post).Pairwise (· < ·)) : (pre ++ y :: post).filter (· != y) = pre ++ post := by
  have hpw := List.pairwise_append.1 hs
  have e1 : pre.filter (· != y) = pre := List.filter_eq_self.2 fun z hz => by have := hpw.2.2 z hz y (List.mem_cons_self ..); simp; omega
  have e2 : post.filter (· != y) = post := List.filter_eq_self.2 fun z hz => by have := List.rel_of_pairwise_cons hpw.2.1 hz; simp; omega
  rw [List.filter_append, List.filter_cons, if_neg (by simp), e1, e2]

theorem mixI_filter_pull (T : TreeOk P ops ks A) {K : Act → World → Prop} {y : Nat} {oy : Oper} {ky : Kd} (hoy : ops[y]? = some oy) (hky : ks[y]? = some ky) (hl : light ky = true) {U : List Nat}
    (hs : U.Pairwise (· < ·)) (hU : ∀ i ∈ U, i < ops.size) (hy : y ∈ U) (hno : ∀ i ∈ A.getD y [], i ∉ U) (p : Nat → Bool) (hp : p y = true) (a : Act) (w : World) (h : mixI P ops C ks K (U.filter p) a w) :
    stepV P ops C ky oy (mixI P ops C ks K ((U.filter (· != y)).filter p)) a w := by
  obtain ⟨pre, post, e1, e2, hpre⟩ := filter_split hy hp hs
  rw [e1] at h
  rw [e2]
  refine mixI_light_pull T hoy hky hl pre post (fun hm => by have := (hpre y hm).2; omega) (fun z hz hm => hno z hm (hpre z hz).1) (fun z hz hm => ?_) a w h
  have h1 := hpre z hz
  have := T.anc_lt z z y (Nat.le_refl _) (hU z h1.1) hm
  omega

theorem firsts_erase {U : List Nat} {y : Nat} (hl : isLight ks y = true) : firsts ks A (U.filter (· != y)) = firsts ks A U := by
  unfold firsts
  rw [List.filter_filter]
  refine List.filter_congr fun x hx => ?_
  by_cases e : x = y
  · subst e; simp [hl]
  · have h1 : (x != y) = true := by simpa using e
    have h2 : ((U.filter (· != y)).all fun i => isLight ks i || !(A.getD x []).contains i) = U.all fun i => isLight ks i || !(A.getD x []).contains i := by
      rw [Bool.eq_iff_iff, List.all_eq_true, List.all_eq_true]
      constructor
      · intro h i hi
        by_cases e2 : i = y
        · subst e2; simp [hl]
        · exact h i (List.mem_filter.2 ⟨hi, by simpa using e2⟩)
      · exact fun h i hi => h i (List.mem_filter.1 hi).1
    rw [h1, h2, Bool.and_true]

theorem isLight_of {y : Nat} {ky : Kd} (hky : ks[y]? = some ky) : isLight ks y = light ky := by unfold isLight; rw [hky]

theorem tr_light (T : TreeOk P ops ks A) {K : Act → World → Prop} {y : Nat} {oy : Oper} {ky : Kd} (hoy : ops[y]? = some oy) (hky : ks[y]? = some ky) (hl : light ky = true) :
    ∀ (n : Nat) (U : List Nat), U.Pairwise (· < ·) → (∀ i ∈ U, i < ops.size) → y ∈ U → (∀ i ∈ A.getD y [], i ∉ U) → ∀ (a : Act) (w : World), Tr P ops C ks A K n U a w → stepV P ops C ky oy (Tr P ops C ks A K n (U.filter (· != y))) a w := by
  have whole : ∀ (U : List Nat), U.Pairwise (· < ·) → (∀ i ∈ U, i < ops.size) → y ∈ U → (∀ i ∈ A.getD y [], i ∉ U) → ∀ (a : Act) (w : World), mixI P ops C ks K U a w → stepV P ops C ky oy (mixI P ops C ks K (U.filter (· != y))) a w := by
    intro U hs hU hy hno a w h
    have e : ∀ V : List Nat, V.filter (fun _ => true) = V := fun V => by simp
    have := mixI_filter_pull (C := C) T hoy hky hl hs hU hy hno (fun _ => true) rfl a w (by rw [e]; exact h)
    rw [e] at this
    exact this
  intro n
  induction n with
  | zero => intro U hs hU hy hno a w h; exact whole U hs hU hy hno a w h
  | succ n ih =>
    intro U hs hU hy hno a w h
    have hly : isLight ks y = true := (isLight_of hky).trans hl
    by_cases hall : U.all (isLight ks) = true
    · have hall' : (U.filter (· != y)).all (isLight ks) = true := by
        rw [List.all_eq_true] at hall ⊢
        exact fun i hi => hall i (List.mem_filter.1 hi).1
      simp only [Tr, hall, if_true] at h
      refine stepV_mono (fun a w h2 => ?_) (whole U hs hU hy hno a w h)
      simp only [Tr, hall', if_true]
      exact h2
    · have hne := firsts_ne T hs hU hall
      simp only [Tr, hall] at h
      have hall' : ¬ (U.filter (· != y)).all (isLight ks) = true := by
        rw [List.all_eq_true] at hall ⊢
        intro h2
        refine hall fun i hi => ?_
        by_cases e : i = y
        · subst e; exact hly
        · exact h2 i (List.mem_filter.2 ⟨hi, by simpa using e⟩)
      have h3 : ∀ x ∈ firsts ks A U, stepV P ops C ky oy (mixI P ops C ks (Tr P ops C ks A K n (rst A x (U.filter (· != y)))) (seg A x (U.filter (· != y)))) a w := by
        intro x hx
        have hxU : x ∈ U := (List.mem_filter.1 hx).1
        have h4 := h x hx
        cases hp : (y == x || (A.getD x []).contains y) with
        | true =>
          have h5 := mixI_filter_pull T hoy hky hl hs hU hy hno (fun i => i == x || (A.getD x []).contains i) hp a w h4
          have e : rst A x (U.filter (· != y)) = rst A x U := by
            unfold rst
            rw [List.filter_filter]
            refine List.filter_congr fun i hi => ?_
            by_cases e : i = y
            · subst e; rw [hp]; rfl
            · have : (i != y) = true := by simpa using e
              rw [this, Bool.and_true]
          rw [e]
          exact h5
        | false =>
          have hyr : y ∈ rst A x U := List.mem_filter.2 ⟨hy, by rw [hp]; rfl⟩
          have e1 : seg A x (U.filter (· != y)) = seg A x U := by
            unfold seg
            rw [List.filter_filter]
            refine List.filter_congr fun i hi => ?_
            by_cases e : i = y
            · subst e; rw [hp]; rfl
            · have : (i != y) = true := by simpa using e
              rw [this, Bool.and_true]
          have e2 : rst A x (U.filter (· != y)) = (rst A x U).filter (· != y) := by
            unfold rst
            rw [List.filter_filter, List.filter_filter]
            exact List.filter_congr fun i hi => Bool.and_comm ..
          have hsr : (rst A x U).Pairwise (· < ·) := hs.filter _
          have h5 := mixI_mono (P := P) (C := C) (ks := ks) (ih (rst A x U) hsr (fun i hi => hU i (List.mem_filter.1 hi).1) hyr (fun i hi hm => hno i hi (List.mem_filter.1 hm).1)) (seg A x U) a w h4
          have h6 : mixI P ops C ks (mixI P ops C ks (Tr P ops C ks A K n ((rst A x U).filter (· != y))) [y]) (seg A x U) a w := by
            refine mixI_mono (fun a w h => ?_) _ a w h5
            simp only [mixI, hoy, hky]
            exact h
          rw [mixI_append] at h6
          have h7 := mixI_light_pull T hoy hky hl (seg A x U) [] (fun hm => by have := (List.mem_filter.1 hm).2; rw [hp] at this; cases this) (fun z hz hm => hno z hm (List.mem_filter.1 hz).1) (fun z hz hm => by
            have hz2 := (List.mem_filter.1 hz).2
            simp only [Bool.or_eq_false_iff] at hp
            simp only [Bool.or_eq_true, beq_iff_eq, List.contains_iff_mem] at hz2
            have hyA : y ∈ A.getD x [] := by
              rcases hz2 with rfl | hz2
              · exact hm
              · exact T.trans x x z (Nat.le_refl _) (hU x hxU) hz2 hm
            have := hp.2
            rw [← List.contains_iff_mem] at hyA
            rw [hyA] at this
            cases this) a w h6
          rw [List.append_nil] at h7
          rw [e1, e2]
          exact h7
      refine stepV_mono (fun a w h8 => ?_) (stepV_all hl hne h3)
      simp only [Tr, hall', if_false, firsts_erase hly]
      exact h8

def hvy (ks : List Kd) (U : List Nat) : Nat := (U.filter fun i => !isLight ks i).length
theorem hvy_erase (U : List Nat) (y : Nat) : hvy ks (U.filter (· != y)) ≤ hvy ks U := by
  unfold hvy
  rw [List.filter_filter]
  have : (U.filter fun i => (!isLight ks i) && (i != y)) = (U.filter fun i => !isLight ks i).filter (· != y) := by
    rw [List.filter_filter]; exact List.filter_congr fun i hi => Bool.and_comm ..
  rw [this]
  exact List.length_filter_le ..
theorem hvy_lt {U : List Nat} {x : Nat} (hx : x ∈ U) (hl : isLight ks x = false) : hvy ks (U.filter (· != x)) < hvy ks U := by
  unfold hvy
  have : ((U.filter (· != x)).filter fun i => !isLight ks i) = (U.filter fun i => !isLight ks i).filter (· != x) := by
    rw [List.filter_filter, List.filter_filter]; exact List.filter_congr fun i hi => Bool.and_comm ..
  rw [this]
  rcases Nat.lt_or_ge ((U.filter fun i => !isLight ks i).filter (· != x)).length (U.filter fun i => !isLight ks i).length with h | h
  · exact h
  · exfalso
    have he := List.filter_eq_self.1 ((List.filter_sublist).eq_of_length_le h) x (List.mem_filter.2 ⟨hx, by simp [hl]⟩)
    simp at he

theorem tr_heavy (T : TreeOk P ops ks A) {K : Act → World → Prop} {x : Nat} {ox : Oper} {kx : Kd} (hox : ops[x]? = some ox) (hkx : ks[x]? = some kx) (hl : light kx = false) {n : Nat} {U : List Nat}
    (hs : U.Pairwise (· < ·)) (hx : x ∈ U) (hno : ∀ i ∈ A.getD x [], i ∉ U) (hn : hvy ks U ≤ n) (a : Act) (w : World) (h : Tr P ops C ks A K n U a w) :
    ∃ m, hvy ks (U.filter (· != x)) ≤ m ∧ stepV P ops C kx ox (Tr P ops C ks A K m (U.filter (· != x))) a w := by
  have hlx : isLight ks x = false := (isLight_of hkx).trans hl
  have hlt := hvy_lt hx hlx
  cases n with
  | zero => omega
  | succ n =>
    refine ⟨n, by omega, ?_⟩
    have hall : ¬ U.all (isLight ks) = true := by
      rw [List.all_eq_true]
      intro h2
      rw [h2 x hx] at hlx
      cases hlx
    have hf : x ∈ firsts ks A U := by
      unfold firsts
      refine List.mem_filter.2 ⟨hx, ?_⟩
      simp only [hlx, Bool.not_false, Bool.true_and, List.all_eq_true, Bool.or_eq_true]
      intro i hi
      cases hc : (A.getD x []).contains i with
      | false => exact .inr rfl
      | true => exact absurd hi (hno i (List.contains_iff_mem.1 hc))
    simp only [Tr, hall] at h
    have h2 := h x hf
    have hc : ∀ i ∈ U, (A.getD x []).contains i = false := fun i hi => by
      cases hc : (A.getD x []).contains i with
      | false => rfl
      | true => exact absurd hi (hno i (List.contains_iff_mem.1 hc))
    have e1 : seg A x U = [x] := by
      unfold seg
      have e : (U.filter fun i => i == x || (A.getD x []).contains i) = U.filter (· == x) := List.filter_congr fun i hi => by rw [hc i hi, Bool.or_false]
      rw [e]
      obtain ⟨pre, post, f1, f2, _⟩ := filter_split (p := (· == x)) hx (by simp) hs
      have : (U.filter (· != x)).filter (· == x) = [] := by
        rw [List.filter_filter]
        exact List.filter_eq_nil_iff.2 fun i hi => by by_cases e : i = x <;> simp [e]
      rw [this] at f2
      have := List.append_eq_nil_iff.1 f2.symm
      rw [f1, this.1, this.2]
      rfl
    have e2 : rst A x U = U.filter (· != x) := List.filter_congr fun i hi => by rw [hc i hi, Bool.or_false]; rfl
    rw [e1, e2] at h2
    simp only [mixI, hox, hkx] at h2
    exact h2

theorem tree_any (T : TreeOk P ops ks A) {Q' : Exit → Act → World → Prop} :
    ∀ (U : List Nat) (n : Nat) (listed : Array Bool), listed.size = ops.size → U.Pairwise (· < ·) → (∀ j, j < ops.size → (listed.getD j true = false ↔ j ∈ U)) → (∀ j ∈ U, j < ops.size) →
      (∀ j oj, ops[j]? = some oj → listed.getD j false = true → ∀ e ∈ oj.after, Region.binds .any e = true → listed.getD e.on false = true) → hvy ks U ≤ n →
      ∀ (a : Act) (w : World), Tr P ops C ks A (fun a w => Q' .normal a w) n U a w → wpAny P .any ops (Only Q') U.length listed a w := by
  intro U
  induction hn : U.length generalizing U with
  | zero =>
    intro n listed hsz hs hU hUs hcl hv a w h
    have : U = [] := List.eq_nil_of_length_eq_zero hn
    subst this
    refine ⟨?_, ?_⟩
    · cases hr : Region.ready .any ops listed with
      | nil => rfl
      | cons j r =>
        have hj : j ∈ Region.ready .any ops listed := by rw [hr]; exact List.mem_cons_self ..
        obtain ⟨h0, oj, hoj, _⟩ := mem_ready.1 hj
        have := (hU j (Array.getElem?_eq_some_iff.1 hoj).1).1 h0
        cases this
    · cases n with
      | zero => exact h
      | succ n =>
        have h' : Q' .normal a w := by simpa [Tr, mixI] using h
        exact h'
  | succ n ih =>
    intro m listed hsz hs hU hUs hcl hv a w h
    have get2 : ∀ j, j < ops.size → ∃ oj kj, ops[j]? = some oj ∧ ks[j]? = some kj := fun j hj =>
      ⟨ops[j], ks[j]'(by rw [T.len]; exact hj), Array.getElem?_eq_getElem hj, List.getElem?_eq_getElem (by rw [T.len]; exact hj)⟩
    refine ⟨fun h0 => ?_, fun j hj => ?_⟩
    · exfalso
      match U, hn with
      | j :: r, _ =>
        have hjs := hUs j (List.mem_cons_self ..)
        obtain ⟨oj, kj, hoj, hkj⟩ := get2 j hjs
        have : j ∈ Region.ready .any ops listed := by
          rw [mem_ready]
          refine ⟨(hU j hjs).2 (List.mem_cons_self ..), oj, hoj, fun e he hb => ?_⟩
          have hlt : e.on < j := T.lt j oj hoj e he hb
          have hns : e.on ∉ (j :: r) := by
            intro hm
            rcases List.mem_cons.1 hm with e1 | e1
            · omega
            · have := List.rel_of_pairwise_cons hs e1; omega
          have := mt (hU e.on (by omega)).1 hns
          have hlt2 : e.on < listed.size := by omega
          simp [hlt2] at this ⊢
          exact this
        rw [h0] at this
        cases this
    · obtain ⟨hun, oj, hoj, hall⟩ := mem_ready.1 hj
      have hjs : j < ops.size := (Array.getElem?_eq_some_iff.1 hoj).1
      have hjU := (hU j hjs).1 hun
      obtain ⟨_, kj, _, hkj⟩ := get2 j hjs
      have hno : ∀ i ∈ A.getD j [], i ∉ U := fun i hi hm => by
        have hl := T.anc_listed hcl j j oj (Nat.le_refl _) hoj hall i hi
        have his := hUs i hm
        have hnl := (hU i his).2 hm
        have hlt2 : i < listed.size := by rw [hsz]; exact his
        simp [hlt2] at hl hnl
        rw [hl] at hnl
        cases hnl
      have h2 : ∃ m', hvy ks (U.filter (· != j)) ≤ m' ∧ stepV P ops C kj oj (Tr P ops C ks A (fun a w => Q' .normal a w) m' (U.filter (· != j))) a w := by
        cases hl : light kj with
        | true => exact ⟨m, Nat.le_trans (hvy_erase U j) hv, tr_light T hoj hkj hl m U hs hUs hjU hno a w h⟩
        | false => exact tr_heavy T hoj hkj hl hs hjU hno hv a w h
      obtain ⟨m', hv', h3⟩ := h2
      refine wpOp_mono (fun a' w' h4 => ?_) (stepV_wpOp (Q' := Q') hoj h3)
      obtain ⟨pre, post, hsplit⟩ := List.append_of_mem hjU
      subst hsplit
      rw [filter_ne_split hs] at h4 hv'
      have hpw := List.pairwise_append.1 hs
      refine ih (pre ++ post) (by simp at hn ⊢; omega) m' (listed.setIfInBounds j true) (by simpa using hsz) ?_ ?_ ?_ ?_ hv' a' w' h4
      · refine List.pairwise_append.2 ⟨hpw.1, (List.pairwise_cons.1 hpw.2.1).2, fun x hx y hy => hpw.2.2 x hx y (List.mem_cons_of_mem _ hy)⟩
      · intro i hi
        have hjnot : j ∉ pre ++ post := by
          intro hm
          rcases List.mem_append.1 hm with hm | hm
          · have := hpw.2.2 j hm j (List.mem_cons_self ..); omega
          · have := List.rel_of_pairwise_cons hpw.2.1 hm; omega
        by_cases hij : j = i
        · subst hij
          have hlt2 : j < listed.size := by omega
          simp [hlt2]
          exact ⟨fun hm => hjnot (List.mem_append_left _ hm), fun hm => hjnot (List.mem_append_right _ hm)⟩
        · rw [getD_set_ne true hij, hU i hi]
          simp only [List.mem_append, List.mem_cons]
          constructor
          · rintro (h | h | h)
            · exact .inl h
            · exact absurd h.symm hij
            · exact .inr h
          · rintro (h | h)
            · exact .inl h
            · exact .inr (.inr h)
      · intro i hi
        refine hUs i ?_
        rcases List.mem_append.1 hi with h | h
        · exact List.mem_append_left _ h
        · exact List.mem_append_right _ (List.mem_cons_of_mem _ h)
      · intro i oi hoi hl e he hb
        by_cases hij : j = i
        · subst hij
          rw [hoj] at hoi
          cases hoi
          exact getD_set_true (hall e he hb)
        · rw [getD_set_ne false hij] at hl
          exact getD_set_true (hcl i oi hoi hl e he hb)
end

/-! ### for the walk: by masks -/
def idx : List Bool → Nat → List Nat
  | [], _ => []
  | b :: m, n => if b then n :: idx m (n + 1) else idx m (n + 1)
def keep {α : Type} : List Bool → List α → List α
  | true :: m, x :: l => x :: keep m l
  | false :: m, _ :: l => keep m l
  | _, _ => []

section
variable {P : Program} {C : World → Prop} {ks : List Kd}
theorem mixI_none {ops : Array Oper} {K : Act → World → Prop} : ∀ (U : List Nat), (∀ i ∈ U, ops[i]? = none) → ∀ (a : Act) (w : World), K a w → mixI P ops C ks K U a w
  | [], _, a, w, h => h
  | i :: r, hU, a, w, h => by
    simp only [mixI, hU i (List.mem_cons_self ..)]
    exact mixI_none r (fun i hi => hU i (List.mem_cons_of_mem _ hi)) a w h
theorem idx_ge : ∀ (m : List Bool) (n : Nat), ∀ i ∈ idx m n, n ≤ i
  | [], n, i, h => by simp [idx] at h
  | b :: m, n, i, h => by
    simp only [idx] at h
    split at h
    · rcases List.mem_cons.1 h with h | h
      · omega
      · have := idx_ge m (n + 1) i h; omega
    · have := idx_ge m (n + 1) i h; omega
theorem mixI_of_keep {ops : Array Oper} (hk : ∀ (j : Nat) (o : Oper) kd, ops[j]? = some o → ks[j]? = some kd → okKd kd o = true) (K : Act → World → Prop) : ∀ (m : List Bool) (l : List Oper) (kl : List Kd) (n : Nat), l.length = kl.length → (∀ j, l[j]? = ops[n + j]?) → (∀ j, kl[j]? = ks[n + j]?) →
    ∀ (a : Act) (w : World), wpMix P ops C K (keep m kl) (keep m l) a w → mixI P ops C ks K (idx m n) a w
  | [], l, kl, n, _, _, _, a, w, h => by
    cases l <;> cases kl <;> simpa [idx, keep, mixI, wpMix] using h
  | b :: m, [], kl, n, hl, ho, _, a, w, h => by
    refine mixI_none _ (fun i hi => ?_) a w ?_
    · have := idx_ge _ _ i hi
      have h2 := ho (i - n)
      rw [show n + (i - n) = i by omega] at h2
      simpa using h2.symm
    · cases kl with
      | nil => cases b <;> simpa [keep, wpMix] using h
      | cons x y => simp at hl
  | b :: m, o :: l, [], n, hl, _, _, a, w, h => by simp at hl
  | b :: m, o :: l, kd :: kl, n, hl, ho, hks, a, w, h => by
    have h0 : ops[n]? = some o := by simpa using (ho 0).symm
    have k0 : ks[n]? = some kd := by simpa using (hks 0).symm
    have ho' : ∀ j, l[j]? = ops[n + 1 + j]? := fun j => by have := ho (j + 1); simpa [Nat.add_assoc, Nat.add_comm 1 j] using this
    have hk' : ∀ j, kl[j]? = ks[n + 1 + j]? := fun j => by have := hks (j + 1); simpa [Nat.add_assoc, Nat.add_comm 1 j] using this
    cases b with
    | true =>
      simp only [idx, if_true, mixI, h0, k0]
      simp only [keep, wpMix] at h
      refine stepV_mono (fun a' w' h' => ?_) (stepV_of_X (hk n o kd h0 k0) h)
      exact mixI_of_keep hk K m l kl (n + 1) (by simpa using hl) ho' hk' a' w' h'
    | false =>
      simp only [idx, Bool.false_eq_true, if_false]
      simp only [keep] at h
      exact mixI_of_keep hk K m l kl (n + 1) (by simpa using hl) ho' hk' a w h

theorem hvy_zero {U : List Nat} (h : hvy ks U = 0) : U.all (isLight ks) = true := by
  rw [List.all_eq_true]
  intro i hi
  cases hl : isLight ks i with
  | true => rfl
  | false => have := hvy_lt hi hl; omega
theorem rst_lt {A : List (List Nat)} {U : List Nat} {x : Nat} (hx : x ∈ firsts ks A U) : hvy ks (rst A x U) < hvy ks U := by
  have hx1 := List.mem_filter.1 hx
  have hlx : isLight ks x = false := by
    have := hx1.2
    simp only [Bool.and_eq_true, Bool.not_eq_true'] at this
    exact this.1
  have h3 := hvy_lt hx1.1 hlx
  have h4 : hvy ks (rst A x U) ≤ hvy ks (U.filter (· != x)) := by
    have e : rst A x U = (U.filter (· != x)).filter fun i => !(A.getD x []).contains i := by
      unfold rst
      rw [List.filter_filter]
      exact List.filter_congr fun i hi => by rw [Bool.not_or, Bool.and_comm]; rfl
    rw [e]
    unfold hvy
    rw [List.filter_filter, show ((U.filter (· != x)).filter fun a => (!isLight ks a && !(A.getD x []).contains a)) = ((U.filter (· != x)).filter fun i => !isLight ks i).filter fun i => !(A.getD x []).contains i from by
      rw [List.filter_filter (l := U.filter (· != x))]; exact List.filter_congr fun i hi => Bool.and_comm ..]
    exact List.length_filter_le ..
  omega
theorem Tr.norm {ops : Array Oper} {A : List (List Nat)} {K : Act → World → Prop} : ∀ {n m : Nat} {U : List Nat} {a : Act} {w : World}, hvy ks U ≤ n → hvy ks U ≤ m → Tr P ops C ks A K n U a w → Tr P ops C ks A K m U a w
  | 0, m, U, a, w, hn, hm, hh => by
    have := hvy_zero (ks := ks) (U := U) (by omega)
    cases m with
    | zero => exact hh
    | succ m => simp only [Tr, this, if_true]; exact hh
  | n + 1, 0, U, a, w, hn, hm, hh => by
    have := hvy_zero (ks := ks) (U := U) (by omega)
    simp only [Tr, this, if_true] at hh
    exact hh
  | n + 1, m + 1, U, a, w, hn, hm, hh => by
    by_cases hall : U.all (isLight ks) = true
    · simp only [Tr, hall, if_true] at hh ⊢; exact hh
    · simp only [Tr, hall] at hh ⊢
      intro x hx
      have := rst_lt hx
      exact mixI_mono (fun a w h2 => Tr.norm (by omega) (by omega) h2) _ a w (hh x hx)

/-- what is left of a region: the operations of a mask -/
structure Tree (P : Program) (l : List Oper) (C : World → Prop) (ks : List Kd) (K : Act → World → Prop) (R : List Bool) (a : Act) (w : World) : Prop where
  get : treeB ks (ancT l) l.toArray = true → Tr P l.toArray C ks (ancT l) K (hvy ks (idx R 0)) (idx R 0) a w

def forks (ks : List Kd) (l : List Oper) (R : List Bool) : List (List Nat × List Nat) := (firsts ks (ancT l) (idx R 0)).map fun x => (seg (ancT l) x (idx R 0), rst (ancT l) x (idx R 0))

variable {l : List Oper} {K : Act → World → Prop} {R : List Bool} {a : Act} {w : World}

theorem wp_region_tree {id : Nat} {Q : Exit → Act → World → Prop} (ks : List Kd) (C : World → Prop) (R : List Bool) (hm : P.follows .mixedOrders = true) (hB : treeB ks (ancT l) l.toArray = true) (hR : idx R 0 = List.range l.length)
    (h : Tree P l C ks (fun a w => Q .normal a w) R a w.drew) : (Code.region id l.toArray true).wp P Q a w := by
  refine Code.wp_mono (Q := Only Q) Only.imp ?_
  refine wp_region_any hm ?_
  obtain ⟨T, _⟩ := treeOk (P := P) hB
  have h1 := h.get hB
  rw [hR] at h1
  have := tree_any (C := C) (Q' := Q) T (List.range l.length) _ (Array.replicate l.toArray.size false) (by simp) List.pairwise_lt_range (fun j hj => by simp at hj ⊢; simp [hj]) (fun j hj => by simpa using hj)
    (fun j oj _ hl => by
      exfalso
      rcases Nat.lt_or_ge j l.toArray.size with hlt | hge
      · simp at hlt; simp [hlt] at hl
      · simp at hge; simp [hge] at hl) (Nat.le_refl _) a w.drew h1
  simpa using this

theorem tree_forks (segs : List (List Bool × List Bool)) (hf : forks ks l R = segs.map fun s => (idx s.1 0, idx s.2 0)) (hne : segs ≠ [])
    (h : ∀ s ∈ segs, Mix P l.toArray C (fun a w => Tree P l C ks K s.2 a w) (keep s.1 ks) (keep s.1 l) a w) : Tree P l C ks K R a w := by
  refine ⟨fun hB => ?_⟩
  obtain ⟨T, hok⟩ := treeOk (P := P) hB
  have hall : ¬ (idx R 0).all (isLight ks) = true := by
    intro ha
    rw [List.all_eq_true] at ha
    have : firsts ks (ancT l) (idx R 0) = [] := List.filter_eq_nil_iff.2 fun x hx => by simp [ha x hx]
    unfold forks at hf
    rw [this] at hf
    cases segs with
    | nil => exact hne rfl
    | cons s t => simp at hf
  cases hk : hvy ks (idx R 0) with
  | zero => exact absurd (hvy_zero hk) hall
  | succ k =>
    simp only [Tr, hall]
    intro x hx
    have hmem : (seg (ancT l) x (idx R 0), rst (ancT l) x (idx R 0)) ∈ forks ks l R := List.mem_map.2 ⟨x, hx, rfl⟩
    rw [hf] at hmem
    obtain ⟨s, hs, he⟩ := List.mem_map.1 hmem
    simp only [Prod.mk.injEq] at he
    have hlt := rst_lt hx
    rw [← he.1]
    have h1 := mixI_of_keep (P := P) (C := C) hok (fun a w => Tree P l C ks K s.2 a w) s.1 l ks 0 (by have := T.len; simp at this; omega) (by simp) (by simp) a w (h s hs).get
    refine mixI_mono (fun a w h2 => ?_) _ a w h1
    have h3 := h2.get hB
    rw [he.2] at h3
    exact Tr.norm (Nat.le_refl _) (by omega) h3
theorem tree_fork1 (m r : List Bool) (hf : forks ks l R = [(idx m 0, idx r 0)]) (h : Mix P l.toArray C (fun a w => Tree P l C ks K r a w) (keep m ks) (keep m l) a w) : Tree P l C ks K R a w :=
  tree_forks [(m, r)] hf (by simp) (fun s hs => by obtain rfl := List.mem_singleton.1 hs; exact h)
theorem tree_fork2 (m r m' r' : List Bool) (hf : forks ks l R = [(idx m 0, idx r 0), (idx m' 0, idx r' 0)]) (h : Mix P l.toArray C (fun a w => Tree P l C ks K r a w) (keep m ks) (keep m l) a w)
    (h' : Mix P l.toArray C (fun a w => Tree P l C ks K r' a w) (keep m' ks) (keep m' l) a w) : Tree P l C ks K R a w :=
  tree_forks [(m, r), (m', r')] hf (by simp) (fun s hs => by
    rcases List.mem_cons.1 hs with rfl | hs
    · exact h
    · obtain rfl := List.mem_singleton.1 hs; exact h')
theorem tree_last (hl : (idx R 0).all (isLight ks) = true) (h : Mix P l.toArray C K (keep R ks) (keep R l) a w) : Tree P l C ks K R a w := by
  refine ⟨fun hB => ?_⟩
  obtain ⟨T, hok⟩ := treeOk (P := P) hB
  have h1 := mixI_of_keep (P := P) (C := C) hok K R l ks 0 (by have := T.len; simp at this; omega) (by simp) (by simp) a w h.get
  cases hvy ks (idx R 0) with
  | zero => exact h1
  | succ k => simp only [Tr, hl, if_true]; exact h1
end

/-- an operation of kind l whose value is known in every world of the class -/
theorem mix_val1 {P : Program} {ops : Array Oper} {C : World → Prop} {K : Act → World → Prop} {ks : List Kd} {o : Oper} {l : List Oper} {a : Act} {w : World} (hC : C w) (hg : o.guard = none) (u : Value)
    (hr : ∀ w', C w' → (execOp a.eval o).run P w' = .ok (.value u) w') (h : Mix P ops C K ks l (a.put o.dst u) w) : Mix P ops C K (.l :: ks) (o :: l) a w := by
  refine mix_l1 hC ?_
  unfold wpQuiet
  have hw : Region.wanted o (yielded ops a.tmps) = true := by simp [Region.wanted, hg]
  rw [if_pos hw]
  refine ⟨u, fun w' hw' => ?_, h⟩
  unfold Oper.quietAt
  rw [hr w' hw']
  exact ⟨rfl, rfl⟩
end Go.Proofs.YtdchmelgaljpfaaGreat
