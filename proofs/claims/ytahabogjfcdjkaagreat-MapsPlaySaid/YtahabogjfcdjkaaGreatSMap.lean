import Derived.Test.YtahabogjfcdjkaaGreatIMap
import Derived.Carry
set_option linter.unusedSimpArgs false
set_option linter.unusedVariables false
namespace Go.Proofs.YtahabogjfcdjkaaGreat
open Go.RowKit

/-! ### a map with keys of an integer kind -/
/-- a string out of its bytes -/
def sV (l : List UInt8) : Value := .string ⟨l.toArray⟩

theorem bs_beq (x k : List UInt8) : (({ data := x.toArray } : ByteArray) == { data := k.toArray }) = (x == k) := by
  rw [Bool.eq_iff_iff, MapKept.bytes_beq, beq_iff_eq]
  simp
theorem sV_now (x k : List UInt8) : Instr.sameNow .string (sV x) (sV k) = some (x == k) := by
  simp [Instr.sameNow, sV, bs_beq]
theorem sV_bits (x : List UInt8) : Instr.sameBits 10000 (sV x) (sV x) = true := by
  simp [Instr.sameBits, sV, bs_beq]
theorem sV_key (x : List UInt8) : MapKept.IsKey .string (sV x) := by simp [MapKept.IsKey, sV]

def SMap (w : World) (m : Nat) (L : List (List UInt8 × Value)) : Prop :=
  ∃ es clock, w.heap[m]? = some (.map es clock) ∧ es.toList.map (fun e => (e.key, e.val)) = L.map (fun x => (sV x.1, x.2)) ∧ MapKept.Stamped es clock

def lookS {α : Type} : List (List UInt8 × α) → List UInt8 → Option α
  | [], _ => none
  | (k, v) :: r, x => if k = x then some v else lookS r x
def updS {α : Type} : List (List UInt8 × α) → List UInt8 → α → List (List UInt8 × α)
  | [], x, u => [(x, u)]
  | (k, v) :: r, x, u => if k = x then (k, u) :: r else (k, v) :: updS r x u
def delS {α : Type} : List (List UInt8 × α) → List UInt8 → List (List UInt8 × α)
  | [], _ => []
  | (k, v) :: r, x => if k = x then r else (k, v) :: delS r x

theorem SMap.lt {w : World} {m : Nat} {L : List (List UInt8 × Value)} (h : SMap w m L) : m < w.heap.size := by
  obtain ⟨es, clock, hb, _⟩ := h
  exact (Array.getElem?_eq_some_iff.1 hb).1
theorem SMap.kept {F : Nat → Prop} {w w' : World} {m : Nat} {L : List (List UInt8 × Value)} (h : SMap w m L) (hk : Kept F w w') (hF : ¬ F m) : SMap w' m L := by
  obtain ⟨es, clock, hb, he⟩ := h
  exact ⟨es, clock, hk.heap hF hb, he⟩
theorem SMap.drew {w : World} {m : Nat} {L : List (List UInt8 × Value)} (h : SMap w m L) : SMap w.drew m L := h
theorem SMap.drewN {w : World} {m : Nat} {L : List (List UInt8 × Value)} (h : SMap w m L) (n : Nat) : SMap (w.drewN n) m L := h
theorem SMap.alloc {w : World} {m : Nat} {L : List (List UInt8 × Value)} (h : SMap w m L) (o : Obj) : SMap (w.alloc o) m L := h.kept (Kept.alloc (F := fun _ => False) (Kept.refl _ w) o) (fun h => h)
theorem SMap.setCell {w : World} {m : Nat} {L : List (List UInt8 × Value)} (h : SMap w m L) {p : Addr} (hp : p.block ≠ m) (u : Value) : SMap (w.setCell p u) m L :=
  h.kept (Kept.setCell (F := fun k => k = p.block) (Kept.refl _ w) (fun _ => rfl) u) (fun e => hp e.symm)
theorem SMap.made (w : World) : SMap (w.alloc (.map #[] 0)) w.heap.size [] := ⟨#[], 0, (MapKept.heap_alloc w _).1, rfl, MapKept.stamped_empty 0⟩
theorem SMap.ne_blk {w : World} {m g : Nat} {t : TypeId} {cs : Array Value} {L : List (List UInt8 × Value)} (h : SMap w m L) (hb : Blk w g t cs) : m ≠ g := by
  obtain ⟨es, clock, hm, _⟩ := h
  rintro rfl
  unfold Blk at hb
  rw [hm] at hb
  cases hb

/-- where the key stands -/
def posS {α : Type} : List (List UInt8 × α) → List UInt8 → Nat → Option (Nat × α)
  | [], _, _ => none
  | (k, v) :: r, x, i => if k = x then some (i, v) else posS r x (i + 1)

theorem findNow_S (x : List UInt8) : ∀ (es : List MapEntry) (L : List (List UInt8 × Value)) (i : Nat), es.map (fun e => (e.key, e.val)) = L.map (fun x => (sV x.1, x.2)) →
    Instr.findNow .string (sV x) es i = some (posS L x i)
  | [], [], i, _ => rfl
  | e :: es, (k, v) :: L, i, h => by
    simp only [List.map_cons, List.cons.injEq, Prod.mk.injEq] at h
    obtain ⟨⟨h1, h2⟩, h3⟩ := h
    have ih := findNow_S x es L (i + 1) h3
    by_cases e1 : k = x
    · simp [Instr.findNow, sV_now, h1, h2, posS, e1]
    · have e2 : (x == k) = false := by simpa using fun e => e1 e.symm
      simp [Instr.findNow, sV_now, h1, h2, posS, e1, e2, ih]
  | [], _ :: _, _, h => by simp at h
  | _ :: _, [], _, h => by simp at h

theorem posS_look {α : Type} (x : List UInt8) : ∀ (L : List (List UInt8 × α)) (i : Nat), (posS L x i).map (·.2) = lookS L x
  | [], _ => rfl
  | (k, v) :: L, i => by
    by_cases e : k = x
    · simp [posS, lookS, e]
    · simp [posS, lookS, e, posS_look x L (i + 1)]

theorem posS_none {α : Type} {x : List UInt8} : ∀ {L : List (List UInt8 × α)} {i : Nat} {u : α}, posS L x i = none → updS L x u = L ++ [(x, u)] ∧ delS L x = L
  | [], _, _, _ => ⟨rfl, rfl⟩
  | (k, v) :: L, i, u, h => by
    by_cases e : k = x
    · simp [posS, e] at h
    · simp only [posS, e, if_false] at h
      have ih := posS_none (L := L) (u := u) h
      simp [updS, delS, e, ih.1, ih.2]

theorem posS_some {x : List UInt8} {u : Value} : ∀ {L : List (List UInt8 × Value)} {i j : Nat} {v : Value} {es : List MapEntry}, posS L x i = some (j, v) → es.map (fun e => (e.key, e.val)) = L.map (fun x => (sV x.1, x.2)) →
    i ≤ j ∧ (es[j - i]?).map (·.key) = some (sV x) ∧ (es.modify (j - i) fun e => { e with key := sV x, val := u }).map (fun e => (e.key, e.val)) = (updS L x u).map (fun x => (sV x.1, x.2)) ∧ (es.eraseIdx (j - i)).map (fun e => (e.key, e.val)) = (delS L x).map (fun x => (sV x.1, x.2))
  | [], _, _, _, _, h, _ => by simp [posS] at h
  | (k, v) :: L, i, j, v', [], h, he => by simp at he
  | (k, v) :: L, i, j, v', e0 :: es, h, he => by
    simp only [List.map_cons, List.cons.injEq, Prod.mk.injEq] at he
    obtain ⟨⟨h1, h2⟩, h3⟩ := he
    by_cases e : k = x
    · simp only [posS, e, if_true, Option.some.injEq, Prod.mk.injEq] at h
      obtain ⟨rfl, rfl⟩ := h
      subst e
      simp [h1, h2, h3, updS, delS]
    · simp only [posS, e, if_false] at h
      obtain ⟨a1, a2, a3, a4⟩ := posS_some (u := u) h h3
      have ej : j - i = (j - (i + 1)) + 1 := by omega
      rw [ej]
      refine ⟨by omega, by simpa using a2, ?_, ?_⟩
      · simp [updS, e, h1, h2]
        exact a3
      · simp [delS, e, h1, h2, a4]

theorem sV_inj {x k : List UInt8} (h : sV x = sV k) : x = k := by
  unfold sV at h
  have := congrArg (fun b : ByteArray => b.data.toList) (Value.string.inj h)
  simpa using this
theorem posS_fresh {x : List UInt8} : ∀ {es : List MapEntry} {L : List (List UInt8 × Value)} {i : Nat}, posS L x i = none → es.map (fun e => (e.key, e.val)) = L.map (fun x => (sV x.1, x.2)) → ∀ e ∈ es, e.key ≠ sV x
  | [], _, _, _, _, e, he => by cases he
  | y :: es, [], _, _, h, _, _ => by simp at h
  | y :: es, (k, v) :: L, i, hp, h, e, he => by
    simp only [List.map_cons, List.cons.injEq, Prod.mk.injEq] at h
    obtain ⟨⟨h1, h2⟩, h3⟩ := h
    by_cases e1 : k = x
    · simp [posS, e1] at hp
    · simp only [posS, e1, if_false] at hp
      rcases List.mem_cons.1 he with rfl | he
      · rw [h1]
        exact fun e => e1 (sV_inj e)
      · exact posS_fresh hp h3 e he

section
variable {P : Program} {w : World} {m : Nat} {L : List (List UInt8 × Value)} {t k e : TypeId}

theorem run_checkKey_S (hk : P.underlying k = some .string) (em : Bool) (x : List UInt8) (w : World) : (Instr.checkKey em 10000 k (sV x)).run P w = .ok () w := by
  exact MapKept.run_checkKey hk (sV_key x) em 9999

theorem run_findKey_S (hk : P.underlying k = some .string) {es : List MapEntry} (h : es.map (fun e => (e.key, e.val)) = L.map (fun x => (sV x.1, x.2))) (x : List UInt8) (w : World) : (Instr.findKey k (sV x) es).run P w = .ok (posS L x 0) w := by
  simp [Instr.findKey, run_underlying hk, findNow_S x es L 0 h]

theorem SMap.look2 (h : SMap w m L) (ht : P.underlying t = some (.map k e)) (hk : P.underlying k = some .string) {z : Value} (hz : ∀ w, (zeroValue e).run P w = .ok z w) (x : List UInt8) :
    (Instr.lookup t (.map (some m)) (sV x) true).run P w = .ok (.tuple #[(lookS L x).getD z, .bool (lookS L x).isSome]) w := by
  obtain ⟨es, clock, hb, he, hst⟩ := h
  have hp := posS_look x L 0
  cases hpos : posS L x 0 with
  | none =>
    rw [hpos] at hp
    simp [Instr.lookup, run_underlying ht, MapKept.run_getObj_map hb, run_checkKey_S hk, run_findKey_S hk he, hpos, hz, Result.andThen, ← hp]
  | some r =>
    rw [hpos] at hp
    simp [Instr.lookup, run_underlying ht, MapKept.run_getObj_map hb, run_checkKey_S hk, run_findKey_S hk he, hpos, hz, Result.andThen, ← hp]

theorem SMap.look1 (h : SMap w m L) (ht : P.underlying t = some (.map k e)) (hk : P.underlying k = some .string) {z : Value} (hz : ∀ w, (zeroValue e).run P w = .ok z w) (x : List UInt8) :
    (Instr.lookup t (.map (some m)) (sV x) false).run P w = .ok ((lookS L x).getD z) w := by
  obtain ⟨es, clock, hb, he, hst⟩ := h
  have hp := posS_look x L 0
  cases hpos : posS L x 0 with
  | none =>
    rw [hpos] at hp
    simp [Instr.lookup, run_underlying ht, MapKept.run_getObj_map hb, run_checkKey_S hk, run_findKey_S hk he, hpos, hz, Result.andThen, ← hp]
  | some r =>
    rw [hpos] at hp
    simp [Instr.lookup, run_underlying ht, MapKept.run_getObj_map hb, run_checkKey_S hk, run_findKey_S hk he, hpos, hz, Result.andThen, ← hp]

theorem SMap.upd (h : SMap w m L) (ht : P.underlying t = some (.map k e)) (hk : P.underlying k = some .string) (x : List UInt8) (u : Value) :
    ∃ w', (Instr.mapUpdate t (.map (some m)) (sV x) u).run P w = .ok () w' ∧ SMap w' m (updS L x u) ∧ Kept (fun k => k = m) w w' := by
  obtain ⟨es, clock, hb, he, hst⟩ := h
  have hlt : m < w.heap.size := (Array.getElem?_eq_some_iff.1 hb).1
  cases hpos : posS L x 0 with
  | none =>
    refine ⟨{ w with heap := w.heap.setIfInBounds m (.map (es.push { key := sV x, val := u, born := clock }) (clock + 1)) }, ?_, ⟨es.push { key := sV x, val := u, born := clock }, clock + 1, by simp [hlt], ?_, MapKept.stamped_push hst (posS_fresh hpos he)⟩, setObj_kept w m _⟩
    · simp [Instr.mapUpdate, run_underlying ht, MapKept.run_getObj_map hb, run_checkKey_S hk, run_findKey_S hk he, hpos, MapKept.run_setObj_map _ hb, Result.andThen]
    · rw [(posS_none (u := u) hpos).1]
      simp [he]
  | some r =>
    obtain ⟨j, v⟩ := r
    obtain ⟨_, a2, a3, _⟩ := posS_some (u := u) hpos he
    simp only [Nat.sub_zero] at a2 a3
    have a2' : (es[j]?.map (·.key)).getD (sV x) = sV x := by
      have : es[j]? = es.toList[j]? := by simp
      rw [this, a2]; rfl
    have hkts : ∀ w, (Instr.keyThatStays (sV x) (sV x)).run P w = .ok (sV x) w := fun w => by simp [Instr.keyThatStays, sV_bits]
    refine ⟨{ w with heap := w.heap.setIfInBounds m (.map (es.modify j fun e => { e with key := sV x, val := u }) clock) }, ?_, ⟨es.modify j fun e => { e with key := sV x, val := u }, clock, by simp [hlt], ?_, MapKept.stamped_modify hst j _ (fun _ _ => rfl) (fun e _ he => by rw [show es[j]? = es.toList[j]? by simp] at he; rw [he] at a2; exact (Option.some.inj a2).symm)⟩, setObj_kept w m _⟩
    · simp [Instr.mapUpdate, run_underlying ht, MapKept.run_getObj_map hb, run_checkKey_S hk, run_findKey_S hk he, hpos, a2', hkts, MapKept.run_setObj_map _ hb, Result.andThen]
    · simpa using a3

theorem SMap.len (h : SMap w m L) (ht : P.underlying t = some (.map k e)) (ty : TypeId) : (Builtin.len_ #[t] ty #[.map (some m)]).run P w = .ok (.int .i64 L.length) w := by
  obtain ⟨es, clock, hb, he, hst⟩ := h
  have hl : es.size = L.length := by have := congrArg List.length he; simpa using this
  simp [Builtin.len_, run_underlying ht, MapKept.run_getObj_map hb, hl, goInt]

theorem SMap.del (h : SMap w m L) (ht : P.underlying t = some (.map k e)) (hk : P.underlying k = some .string) (x : List UInt8) (ty : TypeId) (tys : Array TypeId) (htys : tys[0]? = some t) :
    ∃ w', (Builtin.delete_ tys ty #[.map (some m), sV x]).run P w = .ok (.tuple #[]) w' ∧ SMap w' m (delS L x) ∧ Kept (fun k => k = m) w w' := by
  obtain ⟨es, clock, hb, he, hst⟩ := h
  have hlt : m < w.heap.size := (Array.getElem?_eq_some_iff.1 hb).1
  cases hpos : posS L x 0 with
  | none =>
    refine ⟨{ w with heap := w.heap.setIfInBounds m (.map es clock) }, ?_, ⟨es, clock, by simp [hlt], ?_, hst⟩, setObj_kept w m _⟩
    · simp [Builtin.delete_, htys, run_underlying ht, MapKept.run_getObj_map hb, run_checkKey_S hk, run_findKey_S hk he, hpos, MapKept.run_setObj_map _ hb, Result.andThen]
    · rw [(posS_none (u := .nilIface) hpos).2]
      exact he
  | some r =>
    obtain ⟨j, v⟩ := r
    obtain ⟨_, _, _, a4⟩ := posS_some (u := .nilIface) hpos he
    simp only [Nat.sub_zero] at a4
    refine ⟨{ w with heap := w.heap.setIfInBounds m (.map (es.eraseIdxIfInBounds j) clock) }, ?_, ⟨es.eraseIdxIfInBounds j, clock, by simp [hlt], ?_, MapKept.stamped_erase hst j⟩, setObj_kept w m _⟩
    · simp [Builtin.delete_, htys, run_underlying ht, MapKept.run_getObj_map hb, run_checkKey_S hk, run_findKey_S hk he, hpos, MapKept.run_setObj_map _ hb, Result.andThen]
    · simpa using a4
end

section
variable {P : Program} {w : World} {ops : Array Oper} {rest : List Oper} {o : Oper} {a : Act} {Q : Exit → Act → World → Prop}
/-- 'm[k] = v' -/
theorem wpList_updS {m : Nat} {L : List (List UInt8 × Value)} {k e : TypeId} (hgd : o.guard = none) (mo x v : Operand) (t : TypeId) (hop : o.op = .mapUpdate t mo x v) (ht : P.underlying t = some (.map k e)) (hk : P.underlying k = some .string)
    (h : SMap w m L) (i : List UInt8) (u : Value) (hm : a.eval mo = .map (some m)) (hx : a.eval x = sV i) (hv : a.eval v = u)
    (hK : ∀ w', SMap w' m (updS L i u) → Kept (fun k => k = m) w w' → wpList P ops Q rest (a.put o.dst undef) w') : wpList P ops Q (o :: rest) a w := by
  refine wpList_plain hgd fun K hKK => ?_
  obtain ⟨w', hrun, h1, h2⟩ := h.upd (P := P) ht hk i u
  unfold Oper.wp
  simp [execOp, hop, hm, hx, hv, hrun, Result.andThen]
  exact hKK _ _ (hK w' h1 h2)

/-- 'delete(m, k)' -/
theorem wpList_delS {m : Nat} {L : List (List UInt8 × Value)} {k e : TypeId} (hgd : o.guard = none) (mo x : Operand) (t tk : TypeId) (hop : o.op = .call { callee := .builtin .delete, args := #[mo, x], argTypes := #[t, tk] }) (ht : P.underlying t = some (.map k e)) (hk : P.underlying k = some .string)
    (h : SMap w m L) (i : List UInt8) (hm : a.eval mo = .map (some m)) (hx : a.eval x = sV i)
    (hK : ∀ w', SMap w' m (delS L i) → Kept (fun k => k = m) w w' → wpList P ops Q rest (a.put o.dst (.tuple #[])) w') : wpList P ops Q (o :: rest) a w := by
  refine wpList_plain hgd fun K hKK => ?_
  obtain ⟨w', hrun, h1, h2⟩ := h.del (P := P) ht hk i o.type #[t, tk] rfl
  unfold Oper.wp
  simp [execOp, hop, resolve, invoke, builtin, hm, hx, hrun, Result.andThen]
  exact hKK _ _ (hK w' h1 h2)
end

end Go.Proofs.YtahabogjfcdjkaaGreat
