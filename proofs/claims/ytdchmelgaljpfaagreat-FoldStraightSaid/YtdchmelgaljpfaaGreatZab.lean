import Derived.Test.YtdchmelgaljpfaaGreatMem
import Derived.Carry
import Derived.Test.YtdchmelgaljpfaaGreatKd
import Derived.Test.YtdchmelgaljpfaaGreatKe
import Derived.Test.YtdchmelgaljpfaaGreatMh
import Derived.Test.YtdchmelgaljpfaaGreatZaa
import Derived.Test.YtdchmelgaljpfaaGreatKi
import Derived.Test.YtdchmelgaljpfaaGreatJy
set_option linter.unusedSimpArgs false
set_option linter.unusedVariables false
namespace Go.Proofs.YtdchmelgaljpfaaGreat
open Go.RowKit

/-! ### a map with keys of an integer kind -/
def IMap (w : World) (q : IntKind) (m : Nat) (L : List (Int × Value)) : Prop :=
  ∃ es clock, w.heap[m]? = some (.map es clock) ∧ es.toList.map (fun e => (e.key, e.val)) = L.map (fun x => (Value.int q x.1, x.2))

def lookI {α : Type} : List (Int × α) → Int → Option α
  | [], _ => none
  | (k, v) :: r, x => if k = x then some v else lookI r x
def updI {α : Type} : List (Int × α) → Int → α → List (Int × α)
  | [], x, u => [(x, u)]
  | (k, v) :: r, x, u => if k = x then (k, u) :: r else (k, v) :: updI r x u
def delI {α : Type} : List (Int × α) → Int → List (Int × α)
  | [], _ => []
  | (k, v) :: r, x => if k = x then r else (k, v) :: delI r x

theorem IMap.lt {w : World} {q : IntKind} {m : Nat} {L : List (Int × Value)} (h : IMap w q m L) : m < w.heap.size := by
  obtain ⟨es, clock, hb, _⟩ := h
  exact (Array.getElem?_eq_some_iff.1 hb).1
theorem IMap.kept {F : Nat → Prop} {w w' : World} {q : IntKind} {m : Nat} {L : List (Int × Value)} (h : IMap w q m L) (hk : Kept F w w') (hF : ¬ F m) : IMap w' q m L := by
  obtain ⟨es, clock, hb, he⟩ := h
  exact ⟨es, clock, hk.heap hF hb, he⟩
theorem IMap.drew {w : World} {q : IntKind} {m : Nat} {L : List (Int × Value)} (h : IMap w q m L) : IMap w.drew q m L := h
theorem IMap.alloc {w : World} {q : IntKind} {m : Nat} {L : List (Int × Value)} (h : IMap w q m L) (o : Obj) : IMap (w.alloc o) q m L := h.kept (Kept.alloc (F := fun _ => False) (Kept.refl _ w) o) (fun h => h)
theorem IMap.setCell {w : World} {q : IntKind} {m : Nat} {L : List (Int × Value)} (h : IMap w q m L) {p : Addr} (hp : p.block ≠ m) (u : Value) : IMap (w.setCell p u) q m L :=
  h.kept (Kept.setCell (F := fun k => k = p.block) (Kept.refl _ w) (fun _ => rfl) u) (fun e => hp e.symm)
theorem IMap.made (w : World) (q : IntKind) : IMap (w.alloc (.map #[] 0)) q w.heap.size [] := ⟨#[], 0, (MapKept.heap_alloc w _).1, rfl⟩
/-- where the key stands -/
def posI {α : Type} : List (Int × α) → Int → Nat → Option (Nat × α)
  | [], _, _ => none
  | (k, v) :: r, x, i => if k = x then some (i, v) else posI r x (i + 1)

theorem findNow_I (q : IntKind) (x : Int) : ∀ (es : List MapEntry) (L : List (Int × Value)) (i : Nat), es.map (fun e => (e.key, e.val)) = L.map (fun x => (Value.int q x.1, x.2)) →
    Instr.findNow (.int q) (.int q x) es i = some (posI L x i)
  | [], [], i, _ => rfl
  | e :: es, (k, v) :: L, i, h => by
    simp only [List.map_cons, List.cons.injEq, Prod.mk.injEq] at h
    obtain ⟨⟨h1, h2⟩, h3⟩ := h
    have ih := findNow_I q x es L (i + 1) h3
    by_cases e1 : k = x
    · simp [Instr.findNow, Instr.sameNow, h1, h2, posI, e1]
    · have e2 : (x == k) = false := by simpa using fun e => e1 e.symm
      simp [Instr.findNow, Instr.sameNow, h1, h2, posI, e1, e2, ih]
  | [], _ :: _, _, h => by simp at h
  | _ :: _, [], _, h => by simp at h

theorem posI_look {α : Type} (x : Int) : ∀ (L : List (Int × α)) (i : Nat), (posI L x i).map (·.2) = lookI L x
  | [], _ => rfl
  | (k, v) :: L, i => by
    by_cases e : k = x
    · simp [posI, lookI, e]
    · simp [posI, lookI, e, posI_look x L (i + 1)]

theorem posI_none {α : Type} {x : Int} : ∀ {L : List (Int × α)} {i : Nat} {u : α}, posI L x i = none → updI L x u = L ++ [(x, u)] ∧ delI L x = L
  | [], _, _, _ => ⟨rfl, rfl⟩
  | (k, v) :: L, i, u, h => by
    by_cases e : k = x
    · simp [posI, e] at h
    · simp only [posI, e, if_false] at h
      have ih := posI_none (L := L) (u := u) h
      simp [updI, delI, e, ih.1, ih.2]

theorem posI_some {x : Int} {u : Value} {q : IntKind} : ∀ {L : List (Int × Value)} {i j : Nat} {v : Value} {es : List MapEntry}, posI L x i = some (j, v) → es.map (fun e => (e.key, e.val)) = L.map (fun x => (Value.int q x.1, x.2)) →
    i ≤ j ∧ (es[j - i]?).map (·.key) = some (.int q x) ∧ (es.modify (j - i) fun e => { e with key := Value.int q x, val := u }).map (fun e => (e.key, e.val)) = (updI L x u).map (fun x => (Value.int q x.1, x.2)) ∧ (es.eraseIdx (j - i)).map (fun e => (e.key, e.val)) = (delI L x).map (fun x => (Value.int q x.1, x.2))
  | [], _, _, _, _, h, _ => by simp [posI] at h
  | (k, v) :: L, i, j, v', [], h, he => by simp at he
  | (k, v) :: L, i, j, v', e0 :: es, h, he => by
    simp only [List.map_cons, List.cons.injEq, Prod.mk.injEq] at he
    obtain ⟨⟨h1, h2⟩, h3⟩ := he
    by_cases e : k = x
    · simp only [posI, e, if_true, Option.some.injEq, Prod.mk.injEq] at h
      obtain ⟨rfl, rfl⟩ := h
      subst e
      simp [h1, h2, h3, updI, delI]
    · simp only [posI, e, if_false] at h
      obtain ⟨a1, a2, a3, a4⟩ := posI_some (u := u) (q := q) h h3
      have ej : j - i = (j - (i + 1)) + 1 := by omega
      rw [ej]
      refine ⟨by omega, by simpa using a2, ?_, ?_⟩
      · simp [updI, e, h1, h2]
        exact a3
      · simp [delI, e, h1, h2, a4]

section
variable {P : Program} {w : World} {q : IntKind} {m : Nat} {L : List (Int × Value)} {t k e : TypeId}

theorem run_checkKey_I (hk : P.underlying k = some (.int q)) (em : Bool) (x : Int) (w : World) : (Instr.checkKey em 10000 k (.int q x)).run P w = .ok () w := by
  exact MapKept.run_checkKey hk (by simp [MapKept.IsKey]) em 9999

theorem run_findKey_I (hk : P.underlying k = some (.int q)) {es : List MapEntry} (h : es.map (fun e => (e.key, e.val)) = L.map (fun x => (Value.int q x.1, x.2))) (x : Int) (w : World) : (Instr.findKey k (.int q x) es).run P w = .ok (posI L x 0) w := by
  simp [Instr.findKey, run_underlying hk, findNow_I q x es L 0 h]

theorem IMap.look2 (h : IMap w q m L) (ht : P.underlying t = some (.map k e)) (hk : P.underlying k = some (.int q)) {z : Value} (hz : ∀ w, (zeroValue e).run P w = .ok z w) (x : Int) :
    (Instr.lookup t (.map (some m)) (.int q x) true).run P w = .ok (.tuple #[(lookI L x).getD z, .bool (lookI L x).isSome]) w := by
  obtain ⟨es, clock, hb, he⟩ := h
  have hp := posI_look x L 0
  cases hpos : posI L x 0 with
  | none =>
    rw [hpos] at hp
    simp [Instr.lookup, run_underlying ht, MapKept.run_getObj_map hb, run_checkKey_I hk, run_findKey_I hk he, hpos, hz, Result.andThen, ← hp]
  | some r =>
    rw [hpos] at hp
    simp [Instr.lookup, run_underlying ht, MapKept.run_getObj_map hb, run_checkKey_I hk, run_findKey_I hk he, hpos, hz, Result.andThen, ← hp]

theorem setObj_kept (w : World) (m : Nat) (o : Obj) : Kept (fun k => k = m) w { w with heap := w.heap.setIfInBounds m o } :=
  ⟨rfl, rfl, rfl, by simp, fun k _ hk => by simp [Array.getElem?_setIfInBounds_ne (Ne.symm hk)]⟩

theorem IMap.upd (h : IMap w q m L) (ht : P.underlying t = some (.map k e)) (hk : P.underlying k = some (.int q)) (x : Int) (u : Value) :
    ∃ w', (Instr.mapUpdate t (.map (some m)) (.int q x) u).run P w = .ok () w' ∧ IMap w' q m (updI L x u) ∧ Kept (fun k => k = m) w w' := by
  obtain ⟨es, clock, hb, he⟩ := h
  have hlt : m < w.heap.size := (Array.getElem?_eq_some_iff.1 hb).1
  cases hpos : posI L x 0 with
  | none =>
    refine ⟨{ w with heap := w.heap.setIfInBounds m (.map (es.push { key := .int q x, val := u, born := clock }) (clock + 1)) }, ?_, ⟨_, _, by simp [hlt]; exact ⟨rfl, rfl⟩, ?_⟩, setObj_kept w m _⟩
    · simp [Instr.mapUpdate, run_underlying ht, MapKept.run_getObj_map hb, run_checkKey_I hk, run_findKey_I hk he, hpos, MapKept.run_setObj_map _ hb, Result.andThen]
    · rw [(posI_none (u := u) hpos).1]
      simp [he]
  | some r =>
    obtain ⟨j, v⟩ := r
    obtain ⟨_, a2, a3, _⟩ := posI_some (u := u) (q := q) hpos he
    simp only [Nat.sub_zero] at a2 a3
    have a2' : (es[j]?.map (·.key)).getD (.int q x) = .int q x := by
      have : es[j]? = es.toList[j]? := by simp
      rw [this, a2]; rfl
    have hkts : ∀ w, (Instr.keyThatStays (.int q x) (.int q x)).run P w = .ok (.int q x) w := fun w => by simp [Instr.keyThatStays, Instr.sameBits]
    refine ⟨{ w with heap := w.heap.setIfInBounds m (.map (es.modify j fun e => { e with key := .int q x, val := u }) clock) }, ?_, ⟨_, _, by simp [hlt]; exact ⟨rfl, rfl⟩, ?_⟩, setObj_kept w m _⟩
    · simp [Instr.mapUpdate, run_underlying ht, MapKept.run_getObj_map hb, run_checkKey_I hk, run_findKey_I hk he, hpos, a2', hkts, MapKept.run_setObj_map _ hb, Result.andThen]
    · simpa using a3

theorem IMap.len (h : IMap w q m L) (ht : P.underlying t = some (.map k e)) (ty : TypeId) : (Builtin.len_ #[t] ty #[.map (some m)]).run P w = .ok (.int .i64 L.length) w := by
  obtain ⟨es, clock, hb, he⟩ := h
  have hl : es.size = L.length := by have := congrArg List.length he; simpa using this
  simp [Builtin.len_, run_underlying ht, MapKept.run_getObj_map hb, hl, goInt]

end

section
variable {P : Program} {w : World} {ops : Array Oper} {rest : List Oper} {o : Oper} {a : Act} {Q : Exit → Act → World → Prop}
/-- 'm[k] = v' -/
theorem wpList_updI {q : IntKind} {m : Nat} {L : List (Int × Value)} {k e : TypeId} (hgd : o.guard = none) (mo x v : Operand) (t : TypeId) (hop : o.op = .mapUpdate t mo x v) (ht : P.underlying t = some (.map k e)) (hk : P.underlying k = some (.int q))
    (h : IMap w q m L) (i : Int) (u : Value) (hm : a.eval mo = .map (some m)) (hx : a.eval x = .int q i) (hv : a.eval v = u)
    (hK : ∀ w', IMap w' q m (updI L i u) → Kept (fun k => k = m) w w' → wpList P ops Q rest (a.put o.dst undef) w') : wpList P ops Q (o :: rest) a w := by
  refine wpList_plain hgd fun K hKK => ?_
  obtain ⟨w', hrun, h1, h2⟩ := h.upd (P := P) ht hk i u
  unfold Oper.wp
  simp [execOp, hop, hm, hx, hv, hrun, Result.andThen]
  exact hKK _ _ (hK w' h1 h2)

end

end Go.Proofs.YtdchmelgaljpfaaGreat

set_option linter.unusedSimpArgs false
set_option linter.unusedVariables false
namespace Go.Proofs.YtdchmelgaljpfaaGreat
open Go.RowKit


/-! ### cost's sums -/
def top : Nat := 9223372036854775807
abbrev u64 (a : Nat) : Value := .int .u64 (a : Int)
/-! ### flow.Next -/
set_option maxHeartbeats 4000000 in
set_option maxRecDepth 100000 in
theorem fNext_any (l : List In) (a : Option Addr) (c i : Nat) (x : In) (w : World) (h : Ins w (.slice a l.length c) l) (hok : InsOk l) (hz : checkI l = 0) (hx : l[i]? = some x) (hs : (secL l)[i]? = some false) :
    Calls Tryz.prog 54 #[.slice a l.length c, .int .i64 i] w fun e w' => (∃ n nc na, e = .returned (.tuple #[.slice na n nc, .int .i64 0]) ∧ Ints w' (.slice na n nc) (nextC i x) ∧ ∀ g, (Value.slice na n nc).ownBlock = some g → w.heap.size ≤ g) ∧ Kept (fun _ => False) w w' := by
  have hlen := hok.len
  have hi := (List.getElem?_eq_some_iff.1 hx).1
  have HCK := Lib.hid (fun W hI => icheck_any l a c W hI hok)
  rw [hz] at HCK
  have HSE := Lib.hid (fun W hI => second_any l a c W hI hok)
  have hkn := known_of (check_parts hz).1 hx hs
  have HNE := Lib.hid (fun W hI => next_any l a c i x W hI hok hx hkn)
  have HIN := Lib.hid (fun (W : World) (hk : Kept (fun _ => False) w W) => h.kept hk)
  have HS := Lib.hid hs
  have hd0 : decide ((i : Int) < 0) = false := decide_eq_false (by omega)
  have hd1 : decide ((l.length : Int) ≤ i) = false := decide_eq_false (by omega)
  have hd2 : decide ((i : Int) ≥ l.length) = false := decide_eq_false (by omega)
  clear h hok hz hkn hs hx
  go_enter Tryz.func54, Tryz.ntmps54
  go_wp2_with fail
  refine (HCK.out _ (HIN.out _ (Kept.refl _ w))).mono ?_
  rintro e w1 ⟨⟨p, rfl⟩, hk1⟩
  go_wp2_with fail
  refine (HSE.out _ (HIN.out _ hk1)).mono ?_
  rintro e w2 ⟨sv, rfl, hS, hk2, ho2⟩
  obtain ⟨sg, sc, rfl, hsc, hsl⟩ := Sl.some_ hS (by rw [List.length_map, sec_len]; omega)
  rw [List.length_map, sec_len] at *
  have hsc2 := Bls.cell hS HS.out
  have hK2 := hk1.trans hk2 (fun _ _ h => h)
  clear hS ho2
  go_wp2_with fail
  refine (HNE.out _ (HIN.out _ hK2)).mono ?_
  rintro e w3 ⟨nv, rfl, hN, hk3, hno⟩
  obtain ⟨na, nc, rfl⟩ := Sl.any hN
  rw [List.length_map] at hN hno ⊢
  have hs2 := hK2.size
  go_wp2_with fail
  refine bodyPost_ret (v := .tuple #[.slice na (nextC i x).length nc, .int .i64 0]) (by simp [results, Tryz.results54, go_sem]) rfl ?_
  exact ⟨⟨_, _, _, rfl, hN, fun g hg => Nat.le_trans hs2 (hno g hg)⟩, hK2.trans hk3 (fun _ _ h => h)⟩
/-! ### what is called -/
def subB (x : In) : Bool := (x.op == 133) && (x.src == 1)
/-! ### what a slot tells -/
structure RuleP where
  fj : Nat
  fa : Nat
  j : Nat → Nat → Nat
  a : Nat → Nat → Nat
  hj : ∀ (x y : Nat) (w : World), x ≤ top → y ≤ top → Calls Tryz.prog fj #[u64 x, u64 y] w fun e w' => e = .returned (u64 (j x y)) ∧ w = w'
  ha : ∀ (x y : Nat) (w : World), x ≤ top → y ≤ top → Calls Tryz.prog fa #[u64 x, u64 y] w fun e w' => e = .returned (u64 (a x y)) ∧ w = w'
  ej : ∀ (args : Array Value) (w : World), (callFunc fj args).run Tryz.prog w = .ok (.enter fj args) w
  ea : ∀ (args : Array Value) (w : World), (callFunc fa args).run Tryz.prog w = .ok (.enter fa args) w
  tj : ∀ x y, x ≤ top → y ≤ top → j x y ≤ top
  ta : ∀ x y, x ≤ top → y ≤ top → a x y ≤ top
def calC (R : RuleP) (V : Nat → Nat) (i : Nat) (x : In) : Nat := if subB x = true then R.a 1 (V ((i : Int) + 1 + x.imm).toNat) else 1
def nexC (R : RuleP) (V : Nat → Nat) (c : Nat) : List Int → Nat
  | [] => c
  | [j] => R.a c (V j.toNat)
  | j :: k :: _ => R.a c (R.j (V j.toNat) (V k.toNat))
/-- these numbers are what slots tell; they fall -/
structure Tells (R : RuleP) (l : List In) (V rk : Nat → Nat) : Prop where
  val : ∀ (i : Nat) (x : In), Rch l i → l[i]? = some x → V i = nexC R V (calC R V i x) (nextC i x)
  hi : ∀ i, V i ≤ top
  next : ∀ (i : Nat) (x : In), Rch l i → l[i]? = some x → ∀ j ∈ nextC i x, rk j.toNat < rk i
  sub : ∀ (i : Nat) (x : In), Rch l i → l[i]? = some x → subB x = true → rk ((i : Int) + 1 + x.imm).toNat < rk i
end Go.Proofs.YtdchmelgaljpfaaGreat

set_option linter.unusedSimpArgs false
set_option linter.unusedVariables false
namespace Go.Proofs.YtdchmelgaljpfaaGreat
open Go.RowKit

section
variable {P : Program} {w : World} {ops : Array Oper} {rest : List Oper} {o : Oper} {a : Act} {Q : Exit → Act → World → Prop}
theorem wpList_makeBig (hgd : o.guard = none) (l c : Operand) (t : TypeId) (hop : o.op = Op.makeSlice t l c) {E : TypeId}
    {i0 : TypeInfo} (z : Value) (sz : Nat) (hz1 : z.cells.size = sz) (hpos : 0 < sz) {by_ : Nat} (ht : P.underlying t = some (.slice E)) (hi : P.info? E = some i0) (hz : i0.zero = some z) (hsz : i0.size = sz) (hby : i0.bytes = by_) (hb8 : by_ ≤ 65536)
    (n : Nat) (hl : a.eval l = .int .i64 n) (hc : a.eval c = .int .i64 n) (hn : n ≤ 1073741824)
    (hK : ∀ w', Sl w' E sz (.slice (some ⟨w.heap.size, 0, none⟩) n n) (List.replicate n z.cells.toList) → Kept (fun _ => False) w w' → wpList P ops Q rest (a.put o.dst (.slice (some ⟨w.heap.size, 0, none⟩) n n)) w') : wpList P ops Q (o :: rest) a w := by
  refine wpList_make_full w hgd l c t hop 0 E i0 z sz ht hi hz hsz .i64 .i64 n n n hl hc rfl rfl ?_ (by unfold maxLen; omega) (Nat.zero_le _) ?_
  · rw [hby]
    exact Nat.le_trans (Nat.mul_le_mul hb8 hn) (by omega)
  intro w' h1 h2
  have hall : ∀ c ∈ List.replicate n z.cells.toList, c.length = sz := fun d hd => by rw [(List.mem_replicate.1 hd).2]; simpa using hz1
  refine hK w' ⟨hall, ?_⟩ (Kept.of_grown (Kept.refl _ w) h2 (fun k hk _ => by cases hk))
  have e : (madeCells z.cells (n * sz)).toList = (List.replicate n z.cells.toList).flatten := by
    apply List.ext_getElem?
    intro i
    by_cases hi : i < n * sz
    · have hd := Nat.div_add_mod i sz
      have hm := Nat.mod_lt i hpos
      have hq : i / sz < n := Nat.div_lt_of_lt_mul (by rw [Nat.mul_comm]; exact hi)
      have he : i = i / sz * sz + i % sz := by rw [Nat.mul_comm]; omega
      have h2 := flatten_get hall (i / sz) (i % sz) hm
      rw [← he] at h2
      rw [h2, List.getElem?_replicate, if_pos hq]
      simp only [Option.bind_some]
      rw [Array.getElem?_toList]
      unfold madeCells
      rw [Array.getElem?_map, Array.getElem?_range]
      rw [if_pos hi]
      simp only [Option.map_some]
      rw [hz1, getElem!_pos z.cells (i % sz) (by omega)]
      rw [List.getElem?_eq_getElem (by simpa [hz1] using hm)]
      simp
    · rw [List.getElem?_eq_none (by simp [madeCells]; omega), List.getElem?_eq_none (by rw [flatten_len hall, List.length_replicate]; omega)]
  rw [e] at h1
  rw [List.length_replicate]
  exact h1
end
theorem mix_loadBG {P : Program} {ops : Array Oper} {C : World → Prop} {K : Act → World → Prop} {ks : List Kd} {o : Oper} {l : List Oper} {a : Act} {w : World} (hC : C w) (hw : Region.wanted o (yielded ops a.tmps) = true) (x : Operand) (t : TypeId) (hop : o.op = .load t x) {i0 : TypeInfo} (ha : ∀ w, (isAgg t).run P w = .ok true w) (hi : P.info? t = some i0) (vs : Array Value) (hsz : i0.size = vs.size)
    (ad : Addr) (hx : a.eval x = .pointer (some ad)) (hc : ∀ w', C w' → ∀ (k : Nat) (u : Value), vs[k]? = some u → w'.cell? (ad.add k) = some u) (h : Mix P ops C K ks l (a.put o.dst (.agg vs)) w) : Mix P ops C K (.l :: ks) (o :: l) a w :=
  mix_valG hC hw (.agg vs) (fun w' hw' => by
    have hl := load_agg ha hi vs hsz ad w' (hc w' hw')
    simp [execOp, hop, hx, hl, Result.andThen]) h
set_option maxHeartbeats 4000000 in
set_option maxRecDepth 100000 in
theorem isubs2_any (l : List In) (a : Option Addr) (c : Nat) (w : World) (h : Ins w (.slice a l.length c) l) (hok : InsOk l) (hz : checkI l = 0) :
    Calls Tryz.prog 51 #[.slice a l.length c] w fun e w' => ∃ (pv : Value), e = .returned (.tuple #[pv, .int .i64 0, .int .i64 0]) ∧ Pts w' pv (partsL l) ∧ Kept (fun _ => False) w w' ∧ ∀ g, pv.ownBlock = some g → w.heap.size ≤ g := by
  have hlen := hok.len
  have H1 := Lib.hid (fun W hI => second_any l a c W hI hok)
  have H2 := Lib.hid (fun sv W hI hS => slots_any l a c sv W hI hok hS)
  have H3 := Lib.hid (fun sv W hI hS => begins_any l a c sv W hI hok hS)
  have hbl := begins_len l
  have H4 := Lib.hid (fun bv W hB => split_any l.length a c (beginsL l) bv W hB (by omega))
  have HI := Lib.hid (fun (W : World) (hk : Kept (fun _ => False) w W) => h.kept hk)
  have hsz := (check_parts hz).1
  have hpo := parts_ok hsz
  have hpl := parts_len l
  have H5 := Lib.hid (fun pv sv W hI hP hS => ended_any l a c (partsL l) pv sv W hI hok hP hpo (by omega) hS)
  have hez : endedC l (partsL l) = 0 := by
    unfold checkI at hz
    rw [if_pos hsz] at hz
    by_cases he : endedC l (partsL l) = 0
    · exact he
    · rw [if_neg he] at hz; exact absurd hz he
  rw [hsz] at H2
  rw [hez] at H5
  have hPp : partsOf (beginsL l) l.length = partsL l := rfl
  rw [hPp] at H4
  clear hz hpo hpl hPp hbl hsz hez
  generalize partsL l = P at *
  generalize beginsL l = B at *
  go_enter Tryz.func51, Tryz.ntmps51
  go_wp2_with fail
  refine (H1.out _ (HI.out _ (Kept.refl _ w))).mono ?_
  rintro e w1 ⟨sv, rfl, hS, hk1, ho1⟩
  go_wp2_with fail
  refine (H2.out _ _ (HI.out _ hk1) hS).mono ?_
  rintro e w2 ⟨⟨p, rfl⟩, hk2⟩
  have hK2 := hk1.trans hk2 (fun _ _ h => h)
  have hS2 := Sl.kept hk2 hS (fun _ _ h => h)
  go_wp2_with fail
  refine (H3.out _ _ (HI.out _ hK2) hS2).mono ?_
  rintro e w3 ⟨bv, rfl, hB, hk3, ho3⟩
  have hK3 := hK2.trans hk3 (fun _ _ h => h)
  have hS3 := Sl.kept hk3 hS2 (fun _ _ h => h)
  go_wp2_with fail
  refine (H4.out _ _ hB).mono ?_
  rintro e w4 ⟨pv, rfl, hP, hk4, ho4⟩
  have hK4 := hK3.trans hk4 (fun _ _ h => h)
  have hS4 := Sl.kept hk4 hS3 (fun _ _ h => h)
  go_wp2_with fail
  refine (H5.out _ _ _ (HI.out _ hK4) hP hS4).mono ?_
  rintro e w5 ⟨⟨p5, rfl⟩, hk5⟩
  go_wp2_with fail
  refine bodyPost_ret (v := .tuple #[pv, .int .i64 0, .int .i64 0]) (by simp [results, Tryz.results51, go_sem]) rfl ?_
  exact ⟨pv, rfl, Sl.kept hk5 hP (fun _ _ h => h), hK4.trans hk5 (fun _ _ h => h), fun g hg => Nat.le_trans hK3.size (ho4 g hg)⟩

theorem none_le {b : KR} (h : b.length = 11) : LeR noneR b := ⟨by rw [h]; rfl, fun i v hv => by
  rw [List.getElem?_replicate] at hv
  split at hv <;> simp at hv⟩
/-! ### rows and marks while they are worked out -/
def vrow (v : Option KR) : List Value := rowC (v.getD noneR)
abbrev natsI (Q : List Nat) : List Int := Q.map (fun (n : Nat) => (n : Int))
structure KM (w0 w : World) (gr gm gf : Nat) (wv : Value) (V : List (Option KR)) (F : List (Int × Value)) (Q : List Nat) : Prop where
  kp : Kept (fun _ => False) w0 w
  rows : Sl w 88 44 (.slice (some ⟨gr, 0, none⟩) V.length V.length) (V.map vrow)
  met : Bls w (.slice (some ⟨gm, 0, none⟩) V.length V.length) (V.map (·.isSome))
  fst : IMap w .i64 gf F
  wt : Ints w wv (natsI Q)
  new : w0.heap.size ≤ gr ∧ w0.heap.size ≤ gm ∧ w0.heap.size ≤ gf
  ne : gr ≠ gm ∧ gr ≠ gf ∧ gm ≠ gf
  wo : ∀ g, wv.ownBlock = some g → gr ≠ g ∧ gm ≠ g ∧ gf ≠ g ∧ w0.heap.size ≤ g
section
variable {w0 w w' : World} {gr gm gf : Nat} {wv wv' : Value} {V : List (Option KR)} {F F' : List (Int × Value)} {Q Q' : List Nat}
theorem KM.quiet (h : KM w0 w gr gm gf wv V F Q) (hk : Kept (fun _ => False) w w') : KM w0 w' gr gm gf wv V F Q where
  kp := h.kp.trans hk (fun _ _ e => e)
  rows := Sl.kept hk h.rows (fun _ _ e => e)
  met := Sl.kept hk h.met (fun _ _ e => e)
  fst := h.fst.kept hk (fun e => e)
  wt := Sl.kept hk h.wt (fun _ _ e => e)
  new := h.new
  ne := h.ne
  wo := h.wo
theorem KM.drew (h : KM w0 w gr gm gf wv V F Q) : KM w0 w.drew gr gm gf wv V F Q := h.quiet (Kept.refl _ w).drew
theorem KM.upd (h : KM w0 w gr gm gf wv V F Q) (hF : IMap w' .i64 gf F') (hk : Kept (fun k => k = gf) w w') : KM w0 w' gr gm gf wv V F' Q where
  kp := h.kp.trans hk (fun k hk' e => by have := h.new; omega)
  rows := Sl.kept hk h.rows (fun g hg e => by have : gr = g := Option.some.inj hg; have := h.ne; omega)
  met := Sl.kept hk h.met (fun g hg e => by have : gm = g := Option.some.inj hg; have := h.ne; omega)
  fst := hF
  wt := Sl.kept hk h.wt (fun g hg e => (h.wo g hg).2.2.1 e.symm)
  new := h.new
  ne := h.ne
  wo := h.wo
/-- the waiting ones change -/
theorem KM.wait (h : KM w0 w gr gm gf wv V F Q) (hW : Ints w' wv' (natsI Q')) (hk : Kept (fun k => wv.ownBlock = some k) w w') (ho : ∀ g, wv'.ownBlock = some g → wv.ownBlock = some g ∨ w.heap.size ≤ g) : KM w0 w' gr gm gf wv' V F Q' where
  kp := h.kp.trans hk (fun k hk' e => by have := (h.wo k e).2.2.2; omega)
  rows := Sl.kept hk h.rows (fun g hg e => by have : gr = g := Option.some.inj hg; have := h.wo g e; omega)
  met := Sl.kept hk h.met (fun g hg e => by have : gm = g := Option.some.inj hg; have := h.wo g e; omega)
  fst := h.fst.kept hk (fun e => by have := h.wo gf e; omega)
  wt := hW
  new := h.new
  ne := h.ne
  wo := fun g hg => by
    rcases ho g hg with h1 | h1
    · exact h.wo g h1
    · have h2 := Sl.lt h.rows gr rfl
      have h3 := Sl.lt h.met gm rfl
      have h4 := h.fst.lt
      have h5 := h.kp.size
      refine ⟨by omega, by omega, by omega, by omega⟩
/-- another block is written -/
theorem KM.far {g : Nat} (h : KM w0 w gr gm gf wv V F Q) (hk : Kept (fun k => k = g) w w') (hg : gr < g ∧ gm < g ∧ gf < g ∧ ∀ o, wv.ownBlock = some o → o < g) : KM w0 w' gr gm gf wv V F Q where
  kp := h.kp.trans hk (fun k hk' e => by have := h.new; omega)
  rows := Sl.kept hk h.rows (fun o ho e => by have : gr = o := Option.some.inj ho; omega)
  met := Sl.kept hk h.met (fun o ho e => by have : gm = o := Option.some.inj ho; omega)
  fst := h.fst.kept hk (fun e => by omega)
  wt := Sl.kept hk h.wt (fun o ho e => by have := hg.2.2.2 o ho; omega)
  new := h.new
  ne := h.ne
  wo := h.wo
/-- a row is put, and its mark -/
theorem KM.put {w1 : World} (h : KM w0 w gr gm gf wv V F Q) {i : Nat} {r : KR} (hi : i < V.length) (hR : Sl w1 88 44 (.slice (some ⟨gr, 0, none⟩) V.length V.length) ((V.map vrow).set i (rowC r))) (hk : Kept (fun k => k = gr) w w1) :
    KM w0 (w1.setCell ⟨gm, i, none⟩ (.bool true)) gr gm gf wv (V.set i (some r)) F Q := by
  have hm1 : Bls w1 (.slice (some ⟨gm, 0, none⟩) V.length V.length) (V.map (·.isSome)) := Sl.kept hk h.met (fun g hg e => by have : gm = g := Option.some.inj hg; have := h.ne; omega)
  have hm2 := Bls.set hm1 (i := i) (by rw [List.length_map]; exact hi) true
  have hk2 : Kept (fun k => k = gm) w1 (w1.setCell ⟨gm, i, none⟩ (.bool true)) := Kept.setCell (F := fun k => k = gm) (Kept.refl _ w1) (fun _ => rfl) _
  have hkk : Kept (fun k => k = gr ∨ k = gm) w (w1.setCell ⟨gm, i, none⟩ (.bool true)) := (hk.mono (fun k _ e => .inl e)).trans (hk2.mono (fun k _ e => .inr e)) (fun _ _ e => e)
  refine ⟨h.kp.trans hkk (fun k hk' e => by have := h.new; omega), ?_, ?_, h.fst.kept hkk (fun e => by have := h.ne; omega), Sl.kept hkk h.wt (fun g hg e => by have := h.wo g hg; omega), h.new, h.ne, h.wo⟩
  · rw [List.length_set, List.map_set]
    exact Sl.kept hk2 hR (fun g hg e => by have : gr = g := Option.some.inj hg; have := h.ne; omega)
  · rw [List.length_set, List.map_set]
    exact hm2
theorem KM.cell (h : KM w0 w gr gm gf wv V F Q) {i : Nat} {v : Option KR} (hv : V[i]? = some v) (hl : (v.getD noneR).length = 11) (k : Nat) (u : Value) (hu : (rowA (v.getD noneR))[k]? = some u) : w.cell? ⟨gr, i * 44 + k, none⟩ = some u := by
  have hk : k < 44 := by
    have := (Array.getElem?_eq_some_iff.1 hu).1
    rw [rowA_sz hl] at this
    exact this
  have := Sl.cell h.rows (i := i) (c := vrow v) (by rw [List.getElem?_map, hv]; rfl) hk
  rw [this]
  simpa [vrow, rowA] using hu
theorem KM.mark_cell (h : KM w0 w gr gm gf wv V F Q) {i : Nat} {v : Option KR} (hv : V[i]? = some v) : w.cell? ⟨gm, i, none⟩ = some (.bool v.isSome) :=
  Bls.cell h.met (by rw [List.getElem?_map, hv]; rfl)
/-- a mark alone, of a row that says nothing -/
theorem KM.mark (h : KM w0 w gr gm gf wv V F Q) {i : Nat} (hi : i < V.length) (hv : V[i]? = some none ∨ V[i]? = some (some noneR)) :
    KM w0 (w.setCell ⟨gm, i, none⟩ (.bool true)) gr gm gf wv (V.set i (some noneR)) F Q := by
  have e : (V.map vrow).set i (rowC noneR) = V.map vrow := by
    apply List.ext_getElem?
    intro j
    rw [List.getElem?_set]
    by_cases e : i = j
    · subst e
      rw [if_pos rfl, if_pos (by rw [List.length_map]; exact hi), List.getElem?_map]
      rcases hv with h | h <;> rw [h] <;> rfl
    · rw [if_neg e]
  exact h.put hi (by rw [e]; exact h.rows) (Kept.refl _ w)
end

end Go.Proofs.YtdchmelgaljpfaaGreat

set_option linter.unusedSimpArgs false
set_option linter.unusedVariables false
namespace Go.Proofs.YtdchmelgaljpfaaGreat
open Go.RowKit

/-! ### the document's rows -/
def dA (m : Bool) (r : KR) : Array Value := (.bool m :: rowC r).toArray
theorem dA_sz {m : Bool} {r : KR} (h : r.length = 11) : (dA m r).size = 45 := by
  unfold dA
  rw [List.size_toArray, List.length_cons, flat_len, h]
/-- a row that was met, or not -/
abbrev dV (v : Option KR) : Array Value := dA v.isSome (v.getD noneR)

end Go.Proofs.YtdchmelgaljpfaaGreat

set_option linter.unusedSimpArgs false
set_option linter.unusedVariables false
namespace Go.Proofs.YtdchmelgaljpfaaGreat
open Go.RowKit

/-! ### the document's behind -/
/-- what the document's behind has in memory -/
structure BD (w0 w : World) (g5 g6 g7 : Nat) (x : In) (R : KR) : Prop where
  kp : Kept (fun _ => False) w0 w
  b5 : Blk w g5 99 (dA true R)
  b6 : Blk w g6 99 (dA false noneR)
  b7 : Blk w g7 75 (inVals x)
  n5 : w0.heap.size ≤ g5 ∧ w0.heap.size ≤ g6
  d6 : g5 ≠ g6 ∧ g5 ≠ g7 ∧ g6 ≠ g7
section
variable {w0 w w' : World} {g5 g6 g7 : Nat} {x : In} {R R' : KR}
theorem BD.quiet (h : BD w0 w g5 g6 g7 x R) (hk : Kept (fun _ => False) w w') : BD w0 w' g5 g6 g7 x R :=
  ⟨h.kp.trans hk (fun _ _ e => e), hk.blk (fun e => e) h.b5, hk.blk (fun e => e) h.b6, hk.blk (fun e => e) h.b7, h.n5, h.d6⟩
theorem BD.set (h : BD w0 w g5 g6 g7 x R) (hb : Blk w' g5 99 (dA true R')) (hk : Kept (fun k => k = g5) w w') : BD w0 w' g5 g6 g7 x R' :=
  ⟨h.kp.trans hk (fun k hk' e => by have := h.n5; omega), hb, hk.blk (fun e => h.d6.1 e.symm) h.b6, hk.blk (fun e => h.d6.2.1 e.symm) h.b7, h.n5, h.d6⟩
end
end Go.Proofs.YtdchmelgaljpfaaGreat

set_option linter.unusedSimpArgs false
set_option linter.unusedVariables false
namespace Go.Proofs.YtdchmelgaljpfaaGreat
open Go.RowKit

/-! ### the document's rows compared -/
end Go.Proofs.YtdchmelgaljpfaaGreat

set_option linter.unusedSimpArgs false
set_option linter.unusedVariables false
namespace Go.Proofs.YtdchmelgaljpfaaGreat
open Go.RowKit

/-! ### the document's rounds (plain) -/
theorem meet_none {b : KR} (h : b.length = 11) : meetR noneR b = noneR := meetR_same (none_le h)
/-- one edge: the row changes -/
theorem WB.set {l : List In} {V : List (Option KR)} (h : WB l V) {i j : Nat} {r b : KR} {v : Option KR} (hi : V[i]? = some (some r)) (hb : LeR ((flwL l).beh i r) b) (hnb : NumOk b) (hn : j ∈ (flwL l).next i) (hv : V[j]? = some v) (hrj : Rch l j) (hne : some (meetO v b) ≠ v) :
    WB l (V.set j (some (meetO v b))) := by
  have hjl := (List.getElem?_eq_some_iff.1 hv).1
  have hvl : ∀ r, v = some r → r.length = b.length := fun r e => by rw [hnb.1]; exact (h.num j r (by rw [hv, e])).1
  obtain ⟨m1, m2⟩ := meetO_le hvl
  have hget : ∀ (m : Nat) (r : KR), (V.set j (some (meetO v b)))[m]? = some (some r) → (m = j ∧ r = meetO v b) ∨ (m ≠ j ∧ V[m]? = some (some r)) := fun m r hm => by
    rw [List.getElem?_set] at hm
    split at hm
    · rename_i e
      cases hm
      exact .inl ⟨e.symm, rfl⟩
    · rename_i e
      exact .inr ⟨fun e2 => e e2.symm, hm⟩
  refine ⟨by rw [List.length_set]; exact h.len, fun m r hm => ?_, fun m hm => ?_, fun m r hm => ?_, h.top.set2 (flw_ok l) hi hb hn hv⟩
  · rcases hget m r hm with ⟨rfl, rfl⟩ | ⟨_, hm⟩
    · exact num_le m2 hnb
    · exact h.num m r hm
  · by_cases e : m = j
    · subst e
      have h1 := h.fst m hm
      rw [hv] at h1
      cases h1
      exact absurd (congrArg some (meet_none hnb.1)) hne
    · rw [List.getElem?_set_ne (fun e2 => e e2.symm)]
      exact h.fst m hm
  · rcases hget m r hm with ⟨rfl, rfl⟩ | ⟨_, hm⟩
    · exact hrj
    · exact h.rch m r hm
/-! ### the document's rows in memory -/
def drow (v : Option KR) : List Value := .bool v.isSome :: rowC (v.getD noneR)
theorem drow_arr (v : Option KR) : (drow v).toArray = dV v := rfl
structure KD (w0 w : World) (gD : Nat) (V : List (Option KR)) : Prop where
  kp : Kept (fun _ => False) w0 w
  rows : Sl w 99 45 (.slice (some ⟨gD, 0, none⟩) V.length V.length) (V.map drow)
  new : w0.heap.size ≤ gD
section
variable {w0 w w' : World} {gD : Nat} {V : List (Option KR)}
theorem KD.quiet (h : KD w0 w gD V) (hk : Kept (fun _ => False) w w') : KD w0 w' gD V := ⟨h.kp.trans hk (fun _ _ e => e), Sl.kept hk h.rows (fun _ _ e => e), h.new⟩
theorem KD.far {g : Nat} (h : KD w0 w gD V) (hk : Kept (fun k => k = g) w w') (hg : gD < g) : KD w0 w' gD V :=
  ⟨h.kp.trans hk (fun k hk' e => by have := h.new; omega), Sl.kept hk h.rows (fun o ho e => by have : gD = o := Option.some.inj ho; omega), h.new⟩
theorem KD.put (h : KD w0 w gD V) {i : Nat} {r : KR} (hR : Sl w' 99 45 (.slice (some ⟨gD, 0, none⟩) V.length V.length) ((V.map drow).set i (drow (some r)))) (hk : Kept (fun k => k = gD) w w') : KD w0 w' gD (V.set i (some r)) :=
  ⟨h.kp.trans hk (fun k hk' e => by have := h.new; omega), by rw [List.length_set, List.map_set]; exact hR, h.new⟩
theorem KD.cell (h : KD w0 w gD V) {i : Nat} {v : Option KR} (hv : V[i]? = some v) (hl : (v.getD noneR).length = 11) (k : Nat) (u : Value) (hu : (dV v)[k]? = some u) : w.cell? ⟨gD, i * 45 + k, none⟩ = some u := by
  have hk : k < 45 := by
    have := (Array.getElem?_eq_some_iff.1 hu).1
    rw [dA_sz hl] at this
    exact this
  have := Sl.cell h.rows (i := i) (c := drow v) (by rw [List.getElem?_map, hv]; rfl) hk
  rw [this]
  rw [← drow_arr] at hu
  simpa using hu
theorem KD.met (h : KD w0 w gD V) {i : Nat} {v : Option KR} (hv : V[i]? = some v) : w.cell? ⟨gD, i * 45, none⟩ = some (.bool v.isSome) := by
  have := Sl.cell h.rows (i := i) (c := drow v) (by rw [List.getElem?_map, hv]; rfl) (k := 0) (by omega)
  simpa [drow] using this
end

end Go.Proofs.YtdchmelgaljpfaaGreat

