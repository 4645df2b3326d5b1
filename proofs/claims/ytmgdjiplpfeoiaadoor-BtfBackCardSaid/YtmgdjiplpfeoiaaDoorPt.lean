import Derived.Test.YtmgdjiplpfeoiaaDoorMem
set_option linter.unusedSimpArgs false
set_option linter.unusedVariables false
namespace Go.Proofs.YtmgdjiplpfeoiaaDoor

/-! ### types, in plain -/
structure Mb where
  name : List UInt8
  type : Int
  bits : Int
  deriving DecidableEq
structure Ty where
  kind : Int
  name : List UInt8
  size : Int
  signed : Bool
  to : Int
  count : Int
  mem : List Mb
  deriving DecidableEq

def letterB (c : UInt8) (first : Bool) : Bool := (decide (97 ≤ c.toNat) && decide (c.toNat ≤ 122)) || (decide (65 ≤ c.toNat) && decide (c.toNat ≤ 90)) || c.toNat == 95 || (decide (48 ≤ c.toNat) && decide (c.toNat ≤ 57) && !first)
def nameB (s : List UInt8) : Bool := decide (1 ≤ s.length) && decide (s.length ≤ 32) && (List.range s.length).all fun j => letterB (s.getD j 0) (j == 0)
def namedB (k : Int) : Bool := k == 1 || k == 4 || k == 5
def calledB (l : List Ty) (at_ : Nat) (t : Ty) : Bool :=
  if namedB t.kind = true then (l.take at_).all (fun u => !(u.kind == t.kind && u.name == t.name)) && nameB t.name else t.name == []
def sizedB (t : Ty) : Bool :=
  if t.kind = 1 then t.size == 1 || t.size == 2 || t.size == 4 || t.size == 8
  else if t.kind = 3 then decide (0 ≤ t.count) && decide (t.count ≤ 65536)
  else if t.kind = 4 then decide (0 ≤ t.size) && decide (t.size ≤ 65536) else true
def memOk (kind : Int) (ms : List Mb) (k : Nat) : Bool := match ms[k]? with
  | some m => (kind == 6 && m.name == []) || ((ms.take k).all (fun x => !(x.name == m.name)) && nameB m.name)
  | none => true
def membersB (t : Ty) : Bool := (List.range t.mem.length).all (memOk t.kind t.mem)
def leastC (k : Int) : Int := if k = 1 ∨ k = 4 ∨ k = 6 ∨ k = 2 then 0 else 1
def mostC (k : Int) (n : Int) : Int := if k = 1 ∨ k = 4 then 0 else n
def memIn (kind n : Int) (m : Mb) : Bool := decide (1 ≤ m.type) && decide (m.type ≤ n) && !(kind == 6 && m.bits != 0)
def wholeB (t : Ty) (n : Int) : Bool :=
  t.mem.all (memIn t.kind n) && (decide (leastC t.kind ≤ t.to) && decide (t.to ≤ mostC t.kind n) && t.size == (if t.kind = 1 ∨ t.kind = 4 then t.size else 0) && t.signed == (t.signed && t.kind == 1) && t.count == (if t.kind = 3 then t.count else 0) && t.mem.length == (if t.kind = 4 ∨ t.kind = 6 then t.mem.length else 0))
def aloneC (l : List Ty) (at_ : Nat) (t : Ty) : Int :=
  if t.kind < 1 ∨ 6 < t.kind then 41 else if calledB l at_ t = false then 44 else if sizedB t = false then 43 else if membersB t = false then 44 else if wholeB t l.length = false then 41 else 0
def holdsL (t : Ty) : List Int := if t.kind = 5 ∨ t.kind = 3 then [t.to] else if t.kind = 4 then t.mem.map Mb.type else []

/-- the type of a number -/
def tyAt (l : List Ty) (id : Int) : Option Ty := if 1 ≤ id then l[(id - 1).toNat]? else none
def succL (l : List Ty) (id : Int) : List Int := match tyAt l id with
  | some t => holdsL t
  | none => []
/-- one comes from a type to another one by what it holds -/
inductive Reach (l : List Ty) : Int → Int → Prop
  | one {a b : Int} (h : b ∈ succL l a) : Reach l a b
  | more {a b c : Int} (h : b ∈ succL l a) (r : Reach l b c) : Reach l a c
theorem Reach.trans {l : List Ty} {a b c : Int} (h : Reach l a b) (h2 : Reach l b c) : Reach l a c := by
  induction h with
  | one h => exact .more h h2
  | more h _ ih => exact .more h (ih h2)

/-- all types are in range -/
def Closed (l : List Ty) : Prop := ∀ a b : Int, b ∈ succL l a → 1 ≤ b ∧ b ≤ l.length
def Acyc (l : List Ty) : Prop := ∀ a : Int, ¬ Reach l a a
open Classical in
noncomputable def rk (l : List Ty) (a : Int) : Nat := ((List.range l.length).filter fun i : Nat => decide (Reach l a ((i : Int) + 1))).length
theorem rk_le (l : List Ty) (a : Int) : rk l a ≤ l.length := by
  unfold rk
  exact Nat.le_trans (List.length_filter_le ..) (by simp)
theorem filter_mono {α : Type} {p q : α → Bool} : ∀ {l : List α}, (∀ x ∈ l, p x = true → q x = true) → (l.filter p).length ≤ (l.filter q).length
  | [], _ => Nat.le_refl _
  | z :: l, h => by
    have ih := filter_mono (l := l) (fun x hx => h x (List.mem_cons_of_mem _ hx))
    have hz := h z (List.mem_cons_self ..)
    cases hpz : p z with
    | true => rw [List.filter_cons_of_pos hpz, List.filter_cons_of_pos (hz hpz)]; simp; exact ih
    | false =>
      rw [List.filter_cons_of_neg (by simp [hpz])]
      cases hqz : q z with
      | true => rw [List.filter_cons_of_pos hqz]; simp; omega
      | false => rw [List.filter_cons_of_neg (by simp [hqz])]; exact ih
theorem filter_lt {α : Type} {p q : α → Bool} {y : α} (hq : q y = true) (hp : p y = false) : ∀ {l : List α}, (∀ x ∈ l, p x = true → q x = true) → y ∈ l → (l.filter p).length < (l.filter q).length
  | [], _, hy => by cases hy
  | x :: l, h, hy => by
    rcases List.mem_cons.1 hy with rfl | hy
    · have := filter_mono (l := l) (fun x hx => h x (List.mem_cons_of_mem _ hx))
      rw [List.filter_cons_of_neg (by simp [hp]), List.filter_cons_of_pos hq]
      simp
      omega
    · have := filter_lt hq hp (l := l) (fun z hz => h z (List.mem_cons_of_mem _ hz)) hy
      cases hpx : p x with
      | true => rw [List.filter_cons_of_pos hpx, List.filter_cons_of_pos (h x (List.mem_cons_self ..) hpx)]; simp; exact this
      | false =>
        rw [List.filter_cons_of_neg (by simp [hpx])]
        cases hqx : q x with
        | true => rw [List.filter_cons_of_pos hqx]; simp; omega
        | false => rw [List.filter_cons_of_neg (by simp [hqx])]; exact this
theorem rk_lt {l : List Ty} (hc : Closed l) (ha : Acyc l) {a b : Int} (h : b ∈ succL l a) : rk l b < rk l a := by
  obtain ⟨h1, h2⟩ := hc a b h
  unfold rk
  have hb : (((b - 1).toNat : Nat) : Int) + 1 = b := by omega
  refine filter_lt (y := (b - 1).toNat) ?_ ?_ (fun x _ hx => ?_) (List.mem_range.2 (by omega))
  · simp only [decide_eq_true_eq, hb]
    exact .one h
  · simp only [decide_eq_false_iff_not, hb]
    exact ha b
  · simp only [decide_eq_true_eq] at hx ⊢
    exact .more h hx

/-- through aliases -/
def throughF (l : List Ty) : Nat → Int → Int
  | 0, id => id
  | f + 1, id => match tyAt l id with
    | some t => if t.kind = 5 then throughF l f t.to else id
    | none => id
def throughL (l : List Ty) (id : Int) : Int := throughF l l.length id
def kindAt (l : List Ty) (id : Int) : Int := ((tyAt l id).map Ty.kind).getD 0
/-- bytes -/
def sizeF (l : List Ty) : Nat → Int → Int
  | 0, _ => 0
  | f + 1, id => match tyAt l (throughL l id) with
    | some t => if t.kind = 2 then 8 else if t.kind = 3 then min (t.count * sizeF l f t.to) 65537 else t.size
    | none => 0
def sizeL (l : List Ty) (id : Int) : Int := sizeF l (l.length + 1) id
def functionsB (l : List Ty) (t : Ty) : Bool := if t.kind = 5 then false else (holdsL t).any fun to => kindAt l (throughL l to) == 6
/-- members, one behind the other: where they end; none: one has no room -/
def laidM (l : List Ty) (size : Int) : List Mb → Int → Bool
  | [], _ => true
  | m :: r, e => !(decide (m.bits < 0) || m.bits % 8 != 0 || decide (m.bits / 8 < e) || decide (size < m.bits / 8) || decide (size - m.bits / 8 < sizeL l m.type)) && laidM l size r (m.bits / 8 + sizeL l m.type)
def laidB (l : List Ty) (id : Int) (t : Ty) : Bool := if t.kind = 3 then decide (sizeL l id ≤ 65536) else if t.kind = 4 then laidM l t.size t.mem 0 else true

/-- the first fault of a pass -/
def firstF (p : Nat → Bool) (n : Nat) : Option Nat := (List.range n).find? p
open Classical in
noncomputable def checkL (l : List Ty) : Int × Int :=
  if 256 < l.length then (0, 45)
  else if l.any (fun t => decide (64 < t.mem.length)) = true then (0, 45)
  else match firstF (fun i => (l[i]?.map (aloneC l i)).getD 0 != 0) l.length with
    | some i => ((i : Int) + 1, (l[i]?.map (aloneC l i)).getD 0)
    | none => match firstF (fun i => decide (Reach l ((i : Int) + 1) ((i : Int) + 1))) l.length with
      | some i => ((i : Int) + 1, 42)
      | none => match firstF (fun i => (l[i]?.map (functionsB l)).getD false) l.length with
        | some i => ((i : Int) + 1, 41)
        | none => match firstF (fun i => (l[i]?.map (fun t => !laidB l ((i : Int) + 1) t)).getD false) l.length with
          | some i => ((i : Int) + 1, 43)
          | none => (0, 0)

/-! ### fuel enough -/
theorem tyAt_in {l : List Ty} {id : Int} {t : Ty} (h : tyAt l id = some t) : 1 ≤ id ∧ id ≤ l.length := by
  unfold tyAt at h
  split at h
  · have := (List.getElem?_eq_some_iff.1 h).1
    omega
  · cases h
theorem tyAt_some {l : List Ty} {id : Int} (h1 : 1 ≤ id) (h2 : id ≤ l.length) : ∃ t, tyAt l id = some t := by
  unfold tyAt
  rw [if_pos h1]
  exact ⟨_, List.getElem?_eq_getElem (by omega)⟩
theorem alias_succ {l : List Ty} {id : Int} {t : Ty} (h : tyAt l id = some t) (hk : t.kind = 5) : t.to ∈ succL l id := by
  unfold succL
  rw [h]
  unfold holdsL
  simp [hk]
theorem array_succ {l : List Ty} {id : Int} {t : Ty} (h : tyAt l id = some t) (hk : t.kind = 3) : t.to ∈ succL l id := by
  unfold succL
  rw [h]
  unfold holdsL
  simp [hk]
theorem through_fuel {l : List Ty} (hc : Closed l) (ha : Acyc l) : ∀ (f g : Nat) (id : Int), rk l id ≤ f → rk l id ≤ g → throughF l f id = throughF l g id
  | 0, 0, _, _, _ => rfl
  | 0, g + 1, id, h, _ => by
    simp only [throughF]
    cases ht : tyAt l id with
    | none => rfl
    | some t =>
      simp only
      split
      · rename_i hk
        have := rk_lt hc ha (alias_succ ht hk)
        omega
      · rfl
  | f + 1, 0, id, _, h => by
    simp only [throughF]
    cases ht : tyAt l id with
    | none => rfl
    | some t =>
      simp only
      split
      · rename_i hk
        have := rk_lt hc ha (alias_succ ht hk)
        omega
      · rfl
  | f + 1, g + 1, id, h1, h2 => by
    simp only [throughF]
    cases ht : tyAt l id with
    | none => rfl
    | some t =>
      simp only
      split
      · rename_i hk
        have := rk_lt hc ha (alias_succ ht hk)
        exact through_fuel hc ha f g _ (by omega) (by omega)
      · rfl
/-- one step through an alias -/
theorem through_alias {l : List Ty} (hc : Closed l) (ha : Acyc l) {id : Int} {t : Ty} (h : tyAt l id = some t) (hk : t.kind = 5) : throughL l id = throughL l t.to := by
  have h1 := rk_lt hc ha (alias_succ h hk)
  have h2 := rk_le l id
  unfold throughL
  cases hl : l.length with
  | zero => omega
  | succ n =>
    rw [show throughF l (n + 1) id = throughF l n t.to by simp only [throughF, h, hk, if_true]]
    exact through_fuel hc ha _ _ _ (by omega) (by omega)
theorem through_stop {l : List Ty} {id : Int} {t : Ty} (h : tyAt l id = some t) (hk : t.kind ≠ 5) : throughL l id = id := by
  unfold throughL
  cases l.length with
  | zero => rfl
  | succ n => simp only [throughF, h, if_neg hk]
theorem through_rk {l : List Ty} (hc : Closed l) (ha : Acyc l) : ∀ (f : Nat) (id : Int), rk l (throughF l f id) ≤ rk l id
  | 0, _ => Nat.le_refl _
  | f + 1, id => by
    simp only [throughF]
    cases ht : tyAt l id with
    | none => exact Nat.le_refl _
    | some t =>
      simp only
      split
      · rename_i hk
        have := rk_lt hc ha (alias_succ ht hk)
        have := through_rk hc ha f t.to
        omega
      · exact Nat.le_refl _
theorem through_in {l : List Ty} (hc : Closed l) (ha : Acyc l) : ∀ (f : Nat) (id : Int), 1 ≤ id → id ≤ l.length → rk l id ≤ f → ∃ t, tyAt l (throughF l f id) = some t ∧ t.kind ≠ 5
  | 0, id, h1, h2, hr => by
    obtain ⟨t, ht⟩ := tyAt_some h1 h2
    refine ⟨t, ht, fun hk => ?_⟩
    have := rk_lt hc ha (alias_succ ht hk)
    omega
  | f + 1, id, h1, h2, hr => by
    obtain ⟨t, ht⟩ := tyAt_some h1 h2
    simp only [throughF, ht]
    split
    · rename_i hk
      have h3 := rk_lt hc ha (alias_succ ht hk)
      have h4 := hc _ _ (alias_succ ht hk)
      exact through_in hc ha f _ h4.1 h4.2 (by omega)
    · exact ⟨t, ht, by assumption⟩
theorem through_at {l : List Ty} (hc : Closed l) (ha : Acyc l) {id : Int} (h1 : 1 ≤ id) (h2 : id ≤ l.length) : ∃ t, tyAt l (throughL l id) = some t ∧ t.kind ≠ 5 :=
  through_in hc ha _ id h1 h2 (rk_le l id)
theorem size_fuel {l : List Ty} (hc : Closed l) (ha : Acyc l) : ∀ (f g : Nat) (id : Int), rk l id < f → rk l id < g → sizeF l f id = sizeF l g id
  | 0, _, _, h, _ => absurd h (Nat.not_lt_zero _)
  | _, 0, _, _, h => absurd h (Nat.not_lt_zero _)
  | f + 1, g + 1, id, h1, h2 => by
    simp only [sizeF]
    cases ht : tyAt l (throughL l id) with
    | none => rfl
    | some t =>
      simp only
      split
      · rfl
      · split
        · rename_i hk
          have h3 := rk_lt hc ha (array_succ ht hk)
          have h4 : rk l (throughL l id) ≤ rk l id := through_rk hc ha _ _
          rw [size_fuel hc ha f g t.to (by omega) (by omega)]
        · rfl
/-- the size of a type, step by step -/
theorem size_step {l : List Ty} (hc : Closed l) (ha : Acyc l) {id : Int} {t : Ty} (h : tyAt l (throughL l id) = some t) : sizeL l id = if t.kind = 2 then 8 else if t.kind = 3 then min (t.count * sizeL l t.to) 65537 else t.size := by
  have h4 : rk l (throughL l id) ≤ rk l id := through_rk hc ha _ _
  have h5 := rk_le l id
  unfold sizeL
  rw [show sizeF l (l.length + 1) id = if t.kind = 2 then 8 else if t.kind = 3 then min (t.count * sizeF l l.length t.to) 65537 else t.size by simp only [sizeF, h]]
  split
  · rfl
  · split
    · rename_i hk
      have h3 := rk_lt hc ha (array_succ h hk)
      rw [size_fuel hc ha l.length (l.length + 1) t.to (by omega) (by omega)]
    · rfl

end Go.Proofs.YtmgdjiplpfeoiaaDoor
