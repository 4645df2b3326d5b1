import Derived.Test.YtahabogjfcdjkaaGreatMem
import Derived.Carry
set_option linter.unusedSimpArgs false
set_option linter.unusedVariables false
namespace Go.Proofs.YtahabogjfcdjkaaGreat
open Go.RowKit

/-! ### a map with keys of an integer kind -/
def IMap (w : World) (q : IntKind) (m : Nat) (L : List (Int × Value)) : Prop :=
  ∃ es clock, w.heap[m]? = some (.map es clock) ∧ es.toList.map (fun e => (e.key, e.val)) = L.map (fun x => (Value.int q x.1, x.2))

def lookI {α : Type} : List (Int × α) → Int → Option α
  | [], _ => none
  | (k, v) :: r, x => if k = x then some v else lookI r x
def updI {α : Type} : List (Int × α) → Int → α → List (Int × α)
  | [], x, u => [(x, u)]
  | (k, v) :: r, x, u => if k = x then (k, u) :: r else (k, v) :: updI r x u
def delI {α : Type} : List (Int × α) → Int → List (Int × α)
  | [], _ => []
  | (k, v) :: r, x => if k = x then r else (k, v) :: delI r x

theorem IMap.lt {w : World} {q : IntKind} {m : Nat} {L : List (Int × Value)} (h : IMap w q m L) : m < w.heap.size := by
  obtain ⟨es, clock, hb, _⟩ := h
  exact (Array.getElem?_eq_some_iff.1 hb).1
theorem IMap.kept {F : Nat → Prop} {w w' : World} {q : IntKind} {m : Nat} {L : List (Int × Value)} (h : IMap w q m L) (hk : Kept F w w') (hF : ¬ F m) : IMap w' q m L := by
  obtain ⟨es, clock, hb, he⟩ := h
  exact ⟨es, clock, hk.heap hF hb, he⟩
theorem IMap.drew {w : World} {q : IntKind} {m : Nat} {L : List (Int × Value)} (h : IMap w q m L) : IMap w.drew q m L := h
theorem IMap.drewN {w : World} {q : IntKind} {m : Nat} {L : List (Int × Value)} (h : IMap w q m L) (n : Nat) : IMap (w.drewN n) q m L := h
theorem IMap.alloc {w : World} {q : IntKind} {m : Nat} {L : List (Int × Value)} (h : IMap w q m L) (o : Obj) : IMap (w.alloc o) q m L := h.kept (Kept.alloc (F := fun _ => False) (Kept.refl _ w) o) (fun h => h)
theorem IMap.setCell {w : World} {q : IntKind} {m : Nat} {L : List (Int × Value)} (h : IMap w q m L) {p : Addr} (hp : p.block ≠ m) (u : Value) : IMap (w.setCell p u) q m L :=
  h.kept (Kept.setCell (F := fun k => k = p.block) (Kept.refl _ w) (fun _ => rfl) u) (fun e => hp e.symm)
theorem IMap.made (w : World) (q : IntKind) : IMap (w.alloc (.map #[] 0)) q w.heap.size [] := ⟨#[], 0, (MapKept.heap_alloc w _).1, rfl⟩
theorem IMap.ne_blk {w : World} {q : IntKind} {m g : Nat} {t : TypeId} {cs : Array Value} {L : List (Int × Value)} (h : IMap w q m L) (hb : Blk w g t cs) : m ≠ g := by
  obtain ⟨es, clock, hm, _⟩ := h
  rintro rfl
  unfold Blk at hb
  rw [hm] at hb
  cases hb

/-- where the key stands -/
def posI {α : Type} : List (Int × α) → Int → Nat → Option (Nat × α)
  | [], _, _ => none
  | (k, v) :: r, x, i => if k = x then some (i, v) else posI r x (i + 1)

theorem findNow_I (q : IntKind) (x : Int) : ∀ (es : List MapEntry) (L : List (Int × Value)) (i : Nat), es.map (fun e => (e.key, e.val)) = L.map (fun x => (Value.int q x.1, x.2)) →
    Instr.findNow (.int q) (.int q x) es i = some (posI L x i)
  | [], [], i, _ => rfl
  | e :: es, (k, v) :: L, i, h => by
    simp only [List.map_cons, List.cons.injEq, Prod.mk.injEq] at h
    obtain ⟨⟨h1, h2⟩, h3⟩ := h
    have ih := findNow_I q x es L (i + 1) h3
    by_cases e1 : k = x
    · simp [Instr.findNow, Instr.sameNow, h1, h2, posI, e1]
    · have e2 : (x == k) = false := by simpa using fun e => e1 e.symm
      simp [Instr.findNow, Instr.sameNow, h1, h2, posI, e1, e2, ih]
  | [], _ :: _, _, h => by simp at h
  | _ :: _, [], _, h => by simp at h

theorem posI_look {α : Type} (x : Int) : ∀ (L : List (Int × α)) (i : Nat), (posI L x i).map (·.2) = lookI L x
  | [], _ => rfl
  | (k, v) :: L, i => by
    by_cases e : k = x
    · simp [posI, lookI, e]
    · simp [posI, lookI, e, posI_look x L (i + 1)]

theorem posI_none {α : Type} {x : Int} : ∀ {L : List (Int × α)} {i : Nat} {u : α}, posI L x i = none → updI L x u = L ++ [(x, u)] ∧ delI L x = L
  | [], _, _, _ => ⟨rfl, rfl⟩
  | (k, v) :: L, i, u, h => by
    by_cases e : k = x
    · simp [posI, e] at h
    · simp only [posI, e, if_false] at h
      have ih := posI_none (L := L) (u := u) h
      simp [updI, delI, e, ih.1, ih.2]

theorem posI_some {x : Int} {u : Value} {q : IntKind} : ∀ {L : List (Int × Value)} {i j : Nat} {v : Value} {es : List MapEntry}, posI L x i = some (j, v) → es.map (fun e => (e.key, e.val)) = L.map (fun x => (Value.int q x.1, x.2)) →
    i ≤ j ∧ (es[j - i]?).map (·.key) = some (.int q x) ∧ (es.modify (j - i) fun e => { e with key := Value.int q x, val := u }).map (fun e => (e.key, e.val)) = (updI L x u).map (fun x => (Value.int q x.1, x.2)) ∧ (es.eraseIdx (j - i)).map (fun e => (e.key, e.val)) = (delI L x).map (fun x => (Value.int q x.1, x.2))
  | [], _, _, _, _, h, _ => by simp [posI] at h
  | (k, v) :: L, i, j, v', [], h, he => by simp at he
  | (k, v) :: L, i, j, v', e0 :: es, h, he => by
    simp only [List.map_cons, List.cons.injEq, Prod.mk.injEq] at he
    obtain ⟨⟨h1, h2⟩, h3⟩ := he
    by_cases e : k = x
    · simp only [posI, e, if_true, Option.some.injEq, Prod.mk.injEq] at h
      obtain ⟨rfl, rfl⟩ := h
      subst e
      simp [h1, h2, h3, updI, delI]
    · simp only [posI, e, if_false] at h
      obtain ⟨a1, a2, a3, a4⟩ := posI_some (u := u) (q := q) h h3
      have ej : j - i = (j - (i + 1)) + 1 := by omega
      rw [ej]
      refine ⟨by omega, by simpa using a2, ?_, ?_⟩
      · simp [updI, e, h1, h2]
        exact a3
      · simp [delI, e, h1, h2, a4]

section
variable {P : Program} {w : World} {q : IntKind} {m : Nat} {L : List (Int × Value)} {t k e : TypeId}

theorem run_checkKey_I (hk : P.underlying k = some (.int q)) (em : Bool) (x : Int) (w : World) : (Instr.checkKey em 10000 k (.int q x)).run P w = .ok () w := by
  exact MapKept.run_checkKey hk (by simp [MapKept.IsKey]) em 9999

theorem run_findKey_I (hk : P.underlying k = some (.int q)) {es : List MapEntry} (h : es.map (fun e => (e.key, e.val)) = L.map (fun x => (Value.int q x.1, x.2))) (x : Int) (w : World) : (Instr.findKey k (.int q x) es).run P w = .ok (posI L x 0) w := by
  simp [Instr.findKey, run_underlying hk, findNow_I q x es L 0 h]

theorem IMap.look2 (h : IMap w q m L) (ht : P.underlying t = some (.map k e)) (hk : P.underlying k = some (.int q)) {z : Value} (hz : ∀ w, (zeroValue e).run P w = .ok z w) (x : Int) :
    (Instr.lookup t (.map (some m)) (.int q x) true).run P w = .ok (.tuple #[(lookI L x).getD z, .bool (lookI L x).isSome]) w := by
  obtain ⟨es, clock, hb, he⟩ := h
  have hp := posI_look x L 0
  cases hpos : posI L x 0 with
  | none =>
    rw [hpos] at hp
    simp [Instr.lookup, run_underlying ht, MapKept.run_getObj_map hb, run_checkKey_I hk, run_findKey_I hk he, hpos, hz, Result.andThen, ← hp]
  | some r =>
    rw [hpos] at hp
    simp [Instr.lookup, run_underlying ht, MapKept.run_getObj_map hb, run_checkKey_I hk, run_findKey_I hk he, hpos, hz, Result.andThen, ← hp]

theorem IMap.look1 (h : IMap w q m L) (ht : P.underlying t = some (.map k e)) (hk : P.underlying k = some (.int q)) {z : Value} (hz : ∀ w, (zeroValue e).run P w = .ok z w) (x : Int) :
    (Instr.lookup t (.map (some m)) (.int q x) false).run P w = .ok ((lookI L x).getD z) w := by
  obtain ⟨es, clock, hb, he⟩ := h
  have hp := posI_look x L 0
  cases hpos : posI L x 0 with
  | none =>
    rw [hpos] at hp
    simp [Instr.lookup, run_underlying ht, MapKept.run_getObj_map hb, run_checkKey_I hk, run_findKey_I hk he, hpos, hz, Result.andThen, ← hp]
  | some r =>
    rw [hpos] at hp
    simp [Instr.lookup, run_underlying ht, MapKept.run_getObj_map hb, run_checkKey_I hk, run_findKey_I hk he, hpos, hz, Result.andThen, ← hp]

theorem setObj_kept (w : World) (m : Nat) (o : Obj) : Kept (fun k => k = m) w { w with heap := w.heap.setIfInBounds m o } :=
  ⟨rfl, rfl, rfl, by simp, fun k _ hk => by simp [Array.getElem?_setIfInBounds_ne (Ne.symm hk)]⟩

theorem IMap.upd (h : IMap w q m L) (ht : P.underlying t = some (.map k e)) (hk : P.underlying k = some (.int q)) (x : Int) (u : Value) :
    ∃ w', (Instr.mapUpdate t (.map (some m)) (.int q x) u).run P w = .ok () w' ∧ IMap w' q m (updI L x u) ∧ Kept (fun k => k = m) w w' := by
  obtain ⟨es, clock, hb, he⟩ := h
  have hlt : m < w.heap.size := (Array.getElem?_eq_some_iff.1 hb).1
  cases hpos : posI L x 0 with
  | none =>
    refine ⟨{ w with heap := w.heap.setIfInBounds m (.map (es.push { key := .int q x, val := u, born := clock }) (clock + 1)) }, ?_, ⟨_, _, by simp [hlt]; exact ⟨rfl, rfl⟩, ?_⟩, setObj_kept w m _⟩
    · simp [Instr.mapUpdate, run_underlying ht, MapKept.run_getObj_map hb, run_checkKey_I hk, run_findKey_I hk he, hpos, MapKept.run_setObj_map _ hb, Result.andThen]
    · rw [(posI_none (u := u) hpos).1]
      simp [he]
  | some r =>
    obtain ⟨j, v⟩ := r
    obtain ⟨_, a2, a3, _⟩ := posI_some (u := u) (q := q) hpos he
    simp only [Nat.sub_zero] at a2 a3
    have a2' : (es[j]?.map (·.key)).getD (.int q x) = .int q x := by
      have : es[j]? = es.toList[j]? := by simp
      rw [this, a2]; rfl
    have hkts : ∀ w, (Instr.keyThatStays (.int q x) (.int q x)).run P w = .ok (.int q x) w := fun w => by simp [Instr.keyThatStays, Instr.sameBits]
    refine ⟨{ w with heap := w.heap.setIfInBounds m (.map (es.modify j fun e => { e with key := .int q x, val := u }) clock) }, ?_, ⟨_, _, by simp [hlt]; exact ⟨rfl, rfl⟩, ?_⟩, setObj_kept w m _⟩
    · simp [Instr.mapUpdate, run_underlying ht, MapKept.run_getObj_map hb, run_checkKey_I hk, run_findKey_I hk he, hpos, a2', hkts, MapKept.run_setObj_map _ hb, Result.andThen]
    · simpa using a3

theorem IMap.len (h : IMap w q m L) (ht : P.underlying t = some (.map k e)) (ty : TypeId) : (Builtin.len_ #[t] ty #[.map (some m)]).run P w = .ok (.int .i64 L.length) w := by
  obtain ⟨es, clock, hb, he⟩ := h
  have hl : es.size = L.length := by have := congrArg List.length he; simpa using this
  simp [Builtin.len_, run_underlying ht, MapKept.run_getObj_map hb, hl, goInt]

theorem IMap.del (h : IMap w q m L) (ht : P.underlying t = some (.map k e)) (hk : P.underlying k = some (.int q)) (x : Int) (ty : TypeId) (tys : Array TypeId) (htys : tys[0]? = some t) :
    ∃ w', (Builtin.delete_ tys ty #[.map (some m), .int q x]).run P w = .ok (.tuple #[]) w' ∧ IMap w' q m (delI L x) ∧ Kept (fun k => k = m) w w' := by
  obtain ⟨es, clock, hb, he⟩ := h
  have hlt : m < w.heap.size := (Array.getElem?_eq_some_iff.1 hb).1
  cases hpos : posI L x 0 with
  | none =>
    refine ⟨{ w with heap := w.heap.setIfInBounds m (.map es clock) }, ?_, ⟨es, clock, by simp [hlt], ?_⟩, setObj_kept w m _⟩
    · simp [Builtin.delete_, htys, run_underlying ht, MapKept.run_getObj_map hb, run_checkKey_I hk, run_findKey_I hk he, hpos, MapKept.run_setObj_map _ hb, Result.andThen]
    · rw [(posI_none (u := .nilIface) hpos).2]
      exact he
  | some r =>
    obtain ⟨j, v⟩ := r
    obtain ⟨_, _, _, a4⟩ := posI_some (u := .nilIface) (q := q) hpos he
    simp only [Nat.sub_zero] at a4
    refine ⟨{ w with heap := w.heap.setIfInBounds m (.map (es.eraseIdxIfInBounds j) clock) }, ?_, ⟨_, _, by simp [hlt]; exact ⟨rfl, rfl⟩, ?_⟩, setObj_kept w m _⟩
    · simp [Builtin.delete_, htys, run_underlying ht, MapKept.run_getObj_map hb, run_checkKey_I hk, run_findKey_I hk he, hpos, MapKept.run_setObj_map _ hb, Result.andThen]
    · simpa using a4
end

section
variable {P : Program} {w : World} {ops : Array Oper} {rest : List Oper} {o : Oper} {a : Act} {Q : Exit → Act → World → Prop}
/-- 'm[k] = v' -/
theorem wpList_updI {q : IntKind} {m : Nat} {L : List (Int × Value)} {k e : TypeId} (hgd : o.guard = none) (mo x v : Operand) (t : TypeId) (hop : o.op = .mapUpdate t mo x v) (ht : P.underlying t = some (.map k e)) (hk : P.underlying k = some (.int q))
    (h : IMap w q m L) (i : Int) (u : Value) (hm : a.eval mo = .map (some m)) (hx : a.eval x = .int q i) (hv : a.eval v = u)
    (hK : ∀ w', IMap w' q m (updI L i u) → Kept (fun k => k = m) w w' → wpList P ops Q rest (a.put o.dst undef) w') : wpList P ops Q (o :: rest) a w := by
  refine wpList_plain hgd fun K hKK => ?_
  obtain ⟨w', hrun, h1, h2⟩ := h.upd (P := P) ht hk i u
  unfold Oper.wp
  simp [execOp, hop, hm, hx, hv, hrun, Result.andThen]
  exact hKK _ _ (hK w' h1 h2)

/-- 'delete(m, k)' -/
theorem wpList_delI {q : IntKind} {m : Nat} {L : List (Int × Value)} {k e : TypeId} (hgd : o.guard = none) (mo x : Operand) (t tk : TypeId) (hop : o.op = .call { callee := .builtin .delete, args := #[mo, x], argTypes := #[t, tk] }) (ht : P.underlying t = some (.map k e)) (hk : P.underlying k = some (.int q))
    (h : IMap w q m L) (i : Int) (hm : a.eval mo = .map (some m)) (hx : a.eval x = .int q i)
    (hK : ∀ w', IMap w' q m (delI L i) → Kept (fun k => k = m) w w' → wpList P ops Q rest (a.put o.dst (.tuple #[])) w') : wpList P ops Q (o :: rest) a w := by
  refine wpList_plain hgd fun K hKK => ?_
  obtain ⟨w', hrun, h1, h2⟩ := h.del (P := P) ht hk i o.type #[t, tk] rfl
  unfold Oper.wp
  simp [execOp, hop, resolve, invoke, builtin, hm, hx, hrun, Result.andThen]
  exact hKK _ _ (hK w' h1 h2)
end

end Go.Proofs.YtahabogjfcdjkaaGreat
